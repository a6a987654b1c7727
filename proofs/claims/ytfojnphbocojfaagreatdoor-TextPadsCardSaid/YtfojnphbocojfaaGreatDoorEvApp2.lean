/- append. -/
import Derived.Test.YtfojnphbocojfaaGreatDoorEvApp
set_option linter.all false
set_option linter.unusedVariables false
set_option linter.unusedSimpArgs false
namespace Go.Ev
open Go Go.RowKit
variable [Glob]

section
variable {P : Program} {base : Nat} {g : Gh} {s : St} {w : World} {a : Act}
variable {dst : Option Tmp} {type : TypeId} {pos : String} {after : Array Edge} {guard : Option (Nat × Bool)}

/-- What the elements that are appended are in memory. -/
theorem elemsV_ok {e : TypeId} {n : Nat} {ag : Bool} {y : V} {cy : Value} {ys : List V} (hw : WR base g s w) (hk : kindT P e = some (ag, n)) (hy : VR g y cy) (h : elemsV P e y s = some ys)
    (hs : ys.all (sizedB P e) = true) :
    (∀ w', (Builtin.lenOf cy).run P w' = .ok ys.length w') ∧ ∃ news : Array Value, Lies g n ys news ∧
      ∀ w', (∀ b, b < w.heap.size → w'.heap[b]? = w.heap[b]?) → (Builtin.firstCells n ys.length cy).run P w' = .ok news w' := by
  unfold elemsV at h
  have hall : ∀ x ∈ ys, sizedB P e x = true := fun x hx => List.all_eq_true.1 hs x hx
  split at h
  · rename_i o xs
    simp only [Option.some.injEq] at h
    subst h
    cases hy with
    | lnil o ho =>
      exact ⟨fun w' => rfl, #[], ⟨by simp, fun i x hx => by simp at hx⟩, fun w' _ => rfl⟩
    | lst o xs b off cap sz c h2 h3 h4 h5 h6 h7 =>
      have hsz : ∀ (i : Nat) (x : V), xs[i]? = some x → sz = n := by
        intro i x hx
        rw [← h5 _ _ hx]
        exact (sizedB_spec hk (hall x (List.mem_of_getElem? hx))).1
      refine ⟨fun w' => rfl, ((List.range (xs.length * n)).map fun k => c (k / n) (k % n)).toArray, ⟨by simp, fun i x hx => ?_⟩, fun w' hw' => ?_⟩
      · have hn := hsz i x hx
        subst hn
        have hxl := h5 i x hx
        refine ⟨hxl, fun j y hj => ?_⟩
        have hjn : j < sz := by
          rw [← hxl]
          rcases Nat.lt_or_ge j x.cells.length with h' | h'
          · exact h'
          · simp [List.getElem?_eq_none h'] at hj
        have hi : i < xs.length := by
          rcases Nat.lt_or_ge i xs.length with h' | h'
          · exact h'
          · simp [List.getElem?_eq_none h'] at hx
        have hb : i * sz + j < xs.length * sz := by
          calc i * sz + j < i * sz + sz := by omega
            _ = (i + 1) * sz := by rw [Nat.add_mul]; simp
            _ ≤ xs.length * sz := Nat.mul_le_mul_right _ hi
        refine ⟨c i j, ?_, h7 i x j y hx hj⟩
        have e1 : (i * sz + j) / sz = i := by
          rw [Nat.mul_comm, Nat.mul_add_div (by omega), Nat.div_eq_of_lt hjn]; rfl
        have e2 : (i * sz + j) % sz = j := by
          rw [Nat.mul_comm, Nat.mul_add_mod, Nat.mod_eq_of_lt hjn]
        simp [hb, e1, e2]
      · simp only [Builtin.firstCells]
        refine loadCells_ok w' b off _ _ (by simp) fun j d hd => ?_
        simp only [List.getElem?_map, Option.map_eq_some_iff] at hd
        obtain ⟨k, hk', rfl⟩ := hd
        rw [List.getElem?_eq_some_iff] at hk'
        obtain ⟨hlt, hk'⟩ := hk'
        have e : k = j := by simpa using hk'.symm
        subst e
        have hlt' : k < xs.length * n := by simpa using hlt
        have hn0 : 0 < n := by
          rcases Nat.eq_zero_or_pos n with h0 | h0
          · subst h0; simp at hlt'
          · exact h0
        have hi : k / n < xs.length := by rw [Nat.div_lt_iff_lt_mul hn0]; exact hlt'
        have hx : xs[k / n]? = some xs[k / n] := by simp [hi]
        have hn := hsz _ _ hx
        have hxl := h5 _ _ hx
        have hj : k % n < (xs[k / n]).cells.length := by rw [hxl, hn]; exact Nat.mod_lt _ hn0
        have := h6 (k / n) _ (k % n) _ hx (List.getElem?_eq_getElem hj)
        have hcell := hw.Imm _ _ _ this
        have hbl := World.block_lt_of_cell? _ _ hcell
        rw [World.cell?_of_block (w := w) (hw' b hbl)]
        rw [← hcell, hn]
        congr 2
        have := Nat.div_add_mod k n
        rw [Nat.mul_comm] at this
        omega
  · rename_i b
    simp only [Option.some.injEq] at h
    subst h
    cases hy with
    | str st =>
      have hn : ∀ x ∈ (st.data.toList.map fun c => V.int .u8 c.toNat), n = 1 := by
        intro x hx
        have := (sizedB_spec hk (hall x hx)).1
        simp only [List.mem_map] at hx
        obtain ⟨c, _, rfl⟩ := hx
        simpa [V.cells] using this.symm
      have hsz : st.size = st.data.toList.length := Lib.size_eq st
      refine ⟨fun w' => by simp [Builtin.lenOf], st.data.map (fun b => .int .u8 b.toNat), ⟨?_, fun i x hx => ?_⟩, fun w' hw' => ?_⟩
      · cases hl : st.data.toList with
        | nil =>
          have : st.data = #[] := by apply Array.toList_inj.1; simpa using hl
          simp [this]
        | cons c r =>
          have := hn (.int .u8 c.toNat) (by rw [hl]; simp)
          subst this
          simp only [Array.size_map, List.length_map, Nat.mul_one]
          rw [← hl]; simp
      · have hmem := List.mem_of_getElem? hx
        have := hn x hmem
        subst this
        simp only [List.getElem?_map, Option.map_eq_some_iff, Array.getElem?_toList] at hx
        obtain ⟨c, hc, rfl⟩ := hx
        refine ⟨rfl, fun j y hy => ?_⟩
        cases j with
        | zero =>
          simp only [V.cells, List.getElem?_cons_zero, Option.some.injEq] at hy
          subst hy
          exact ⟨.int .u8 c.toNat, by simp [hc], .int _ _⟩
        | succ j => simp [V.cells] at hy
      · simp only [Builtin.firstCells, Sem.run_pure, List.length_map]
        congr 1
        have : (st.extract 0 st.data.toList.length).data = st.data := by
          apply Array.toList_inj.1
          rw [Lib.extract_data]; simp only [List.drop_zero, Nat.sub_zero]; exact List.take_of_length_le (Nat.le_refl _)
        rw [this]
  · rename_i id off len cap
    split at h
    · simp at h
    · rename_i hk1
      simp only [ne_eq, Decidable.not_not] at hk1
      rw [hk] at hk1
      simp only [Option.some.injEq, Prod.mk.injEq] at hk1
      obtain ⟨rfl, rfl⟩ := hk1
      split at h
      · rename_i u cells hcell
        split at h
        · rename_i hle
          simp only [Option.some.injEq] at h
          subst h
          cases hy with
          | sl _ _ _ _ b off' cap' h1 h0 h2 h3 =>
            obtain ⟨ob, hob, hr⟩ := hw.blk id _ b hcell h1
            cases ob <;> simp only [BR] at hr
            rename_i cs t' fz
            obtain ⟨rfl, hlen, hrel, _⟩ := hr
            have hylen : ((cells.drop off).take len).length = len := by simp; omega
            have hcl : ((cs.toList.drop off).take len).length = len := by simp; omega
            refine ⟨fun w' => by rw [hylen]; rfl, ((cs.toList.drop off).take len).toArray, ⟨by simp; omega, fun i x hx => ?_⟩, fun w' hw' => ?_⟩
            · have hx1 := (sizedB_spec hk (hall x (List.mem_of_getElem? hx)))
              have hxc : x.cells = [x] := by
                have := hx1.2.1
                cases x <;> first | rfl | simp [V.isAgg] at this
              refine ⟨hx1.1, fun j y hj => ?_⟩
              rw [hxc] at hj
              cases j with
              | zero =>
                simp at hj; subst hj
                have hx' := sub_get hx
                have hlt : off + i < cs.size := by
                  have : off + i < cells.length := by
                    rcases Nat.lt_or_ge (off + i) cells.length with h' | h'
                    · exact h'
                    · simp [List.getElem?_eq_none h'] at hx'
                  omega
                refine ⟨cs[off + i], ?_, hrel _ _ _ hx'.1 (by simp [hlt])⟩
                simp [hx'.2, hlt]
              | succ j => simp at hj
            · by_cases hl0 : len = 0
              · subst hl0
                simp [Builtin.firstCells, loadCells, loadCellsFrom]
              · have hoff := h3 (by omega)
                subst hoff
                have hlt := lt_of_get hob
                simp only [Builtin.firstCells, hylen, Nat.mul_one]
                refine loadCells_ok w' b off' _ _ hcl fun j d hd => ?_
                rw [World.cell?_of_block (w := w) (hw' b hlt), cell_of w b _ cs t' fz hob]
                rw [List.getElem?_take] at hd
                split at hd
                · rw [List.getElem?_drop] at hd; simpa using hd
                · simp at hd
        · simp at h
      · simp at h
  · simp at h

end
end Go.Ev
