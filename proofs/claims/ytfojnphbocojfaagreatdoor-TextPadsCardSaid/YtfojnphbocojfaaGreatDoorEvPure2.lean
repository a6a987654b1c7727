/- The pure operations of the evaluator are the model's, second part. -/
import Derived.Test.YtfojnphbocojfaaGreatDoorEvPure
set_option linter.all false
set_option linter.unusedVariables false
set_option linter.unusedSimpArgs false
namespace Go.Ev
open Go Go.RowKit
variable [Glob]

section
variable {P : Program} {g : Gh}

theorem run_eqlike {op : BinOp} {t : TypeId} {x y : V} {cx cy : Value} {b : Bool} (hx : VR g x cx) (hy : VR g y cy) (h : eqV P t x y = some b)
    (hi : ∀ k n k' n', ¬ (x = .int k n ∧ y = .int k' n')) (hs : ∀ a c, ¬ (x = .str a ∧ y = .str c)) (w : World) :
    (binOp .eql t cx cy).run P w = .ok (.bool b) w ∧ (binOp .neq t cx cy).run P w = .ok (.bool (!b)) w := by
  have he := (eqV_ok hx hy h w).1
  have key : binOp .eql t cx cy = (do pure (.bool (← Op.equal t cx cy))) ∧ binOp .neq t cx cy = (do pure (.bool (!(← Op.equal t cx cy)))) := by
    unfold eqV at h
    split at h
    · cases hx; cases hy; exact ⟨rfl, rfl⟩
    · simp at h
    · simp at h
    · unfold eqCell at h
      split at h <;> (try simp only [reduceCtorEq] at h) <;> cases hx <;> cases hy <;>
        first
        | exact ⟨rfl, rfl⟩
        | (exfalso; exact hi _ _ _ _ ⟨rfl, rfl⟩)
        | (exfalso; exact hs _ _ ⟨rfl, rfl⟩)
  rw [key.1, key.2]
  simp [he]

theorem binV_ok {op : BinOp} {t : TypeId} {x y : V} {cx cy : Value} {v : V} (hx : VR g x cx) (hy : VR g y cy) (h : binV P op t x y = some v) (ox oy : Operand) :
    PureOk P g v (do eqGuard op t ox oy cx cy; binOp op t cx cy) := by
  unfold binV at h
  split at h
  · rename_i k a k' b
    cases hx; cases hy
    have hg : ∀ w, (eqGuard op t ox oy (.int k a) (.int k' b)).run P w = .ok () w := by
      intro w; unfold eqGuard; cases op <;> rfl
    have : PureOk P g v (binOp op t (.int k a) (.int k' b)) := by
      split at h
      · exact shiftV_ok h t
      · exact shiftV_ok h t
      · split at h
        · rename_i e; subst e; exact intV_ok h t
        · simp at h
    obtain ⟨c, hc, hr⟩ := this
    exact ⟨c, hc, fun w hw => by rw [Sem.run_bind, hg, Result.andThen_ok, hr w hw]⟩
  · cases hx; cases hy
    rename_i a b
    have hg : ∀ w, (eqGuard op t ox oy (.string a) (.string b)).run P w = .ok () w := by
      intro w; unfold eqGuard; cases op <;> rfl
    obtain ⟨c, hc, hr⟩ := strV_ok (P := P) (g := g) h t
    exact ⟨c, hc, fun w hw => by rw [Sem.run_bind, hg, Result.andThen_ok, hr w hw]⟩
  · rename_i hi hs
    split at h
    · simp only [Option.map_eq_some_iff] at h
      obtain ⟨b, hb, rfl⟩ := h
      refine .mk _ (.bool _) fun w => ?_
      rw [Sem.run_bind, (eqV_ok hx hy hb w).2, Result.andThen_ok]
      exact (run_eqlike (op := .eql) hx hy hb (fun k n k' n' ⟨e1, e2⟩ => hi k n k' n' e1 e2) (fun a c ⟨e1, e2⟩ => hs a c e1 e2) w).1
    · simp only [Option.map_eq_some_iff] at h
      obtain ⟨b, hb, rfl⟩ := h
      refine .mk _ (.bool _) fun w => ?_
      rw [Sem.run_bind, (eqV_ok hx hy hb w).2, Result.andThen_ok]
      exact (run_eqlike (op := .eql) hx hy hb (fun k n k' n' ⟨e1, e2⟩ => hi k n k' n' e1 e2) (fun a c ⟨e1, e2⟩ => hs a c e1 e2) w).2
    · simp at h

theorem unV_ok {op : UnOp} {x : V} {cx : Value} {v : V} (hx : VR g x cx) (h : unV op x = some v) : PureOk P g v (Op.unary op cx) := by
  unfold unV at h
  split at h
  · cases hx
    simp only [Option.some.injEq] at h; subst h
    exact .mk _ (.int _ _) fun w => rfl
  · cases hx
    simp only [Option.some.injEq] at h; subst h
    exact .mk _ (.bool _) fun w => rfl
  · simp at h

theorem loadCellsFrom_ok (w : World) (b off : Nat) : ∀ (n i : Nat) (cs : List Value) (acc : Array Value), cs.length = n →
    (∀ j c, cs[j]? = some c → w.cell? ⟨b, off + i + j, none⟩ = some c) →
    (loadCellsFrom ⟨b, off, none⟩ i n acc).run P w = .ok (acc ++ cs.toArray) w
  | 0, i, cs, acc, hl, _ => by
    have : cs = [] := List.eq_nil_of_length_eq_zero hl
    subst this
    simp [loadCellsFrom]
  | n + 1, i, [], acc, hl, _ => by simp at hl
  | n + 1, i, c :: cs, acc, hl, h => by
    have h0 := h 0 c rfl
    have ha : (⟨b, off, none⟩ : Addr).add i = ⟨b, off + i, none⟩ := by
      unfold Addr.add; split
      · rename_i e; simp [e]
      · rfl
    simp only [loadCellsFrom, Sem.run_bind]
    rw [run_load, ha]
    simp only [Nat.add_zero] at h0
    rw [h0]
    simp only [Result.andThen_ok]
    rw [loadCellsFrom_ok w b off n (i + 1) cs (acc.push c) (by simpa using hl) (fun j d hd => by
      have := h (j + 1) d (by simpa using hd)
      rw [← this]; congr 2; omega)]
    simp

theorem loadCells_ok (w : World) (b off n : Nat) (cs : List Value) (hl : cs.length = n) (h : ∀ j c, cs[j]? = some c → w.cell? ⟨b, off + j, none⟩ = some c) :
    (loadCells ⟨b, off, none⟩ n).run P w = .ok cs.toArray w := by
  have := loadCellsFrom_ok (P := P) w b off n 0 cs #[] hl (by simpa using h)
  simpa [loadCells] using this

/-- Bytes out of cells. -/
theorem toBytes_rel : ∀ {xs : List V} {b : List UInt8} {cs : List Value}, VRs g xs cs.toArray → toBytes xs = some b →
    ∃ ns : List Int, cs = ns.map (fun n => Value.int .u8 n) ∧ b = ns.map fun n => UInt8.ofNat n.toNat
  | [], b, cs, h, hb => by
    have : cs = [] := by have := h.1; simp at this; exact List.eq_nil_of_length_eq_zero this.symm
    subst this
    simp only [toBytes, Option.some.injEq] at hb
    exact ⟨[], rfl, hb.symm⟩
  | x :: xs, b, [], h, hb => by have := h.1; simp at this
  | x :: xs, b, c :: cs, h, hb => by
    have h0 : VR g x c := h.2 0 x c (by simp) (by simp)
    have hr : VRs g xs cs.toArray := ⟨by have := h.1; simpa using this, fun i a b ha hb => h.2 (i + 1) a b (by simpa using ha) (by simpa using hb)⟩
    unfold toBytes at hb
    split at hb
    · rename_i heq; cases heq
    · rename_i n r heq
      cases heq
      cases h0
      simp only [Option.map_eq_some_iff] at hb
      obtain ⟨b', hb', rfl⟩ := hb
      obtain ⟨ns, rfl, rfl⟩ := toBytes_rel hr hb'
      exact ⟨n :: ns, rfl, rfl⟩
    · simp at hb

theorem bytes_loop (w : World) : ∀ (ns : List Int) (acc : ByteArray),
    (forIn (m := Sem) (ns.map fun n => Value.int .u8 n) acc fun c s => (do
      let .int .u8 n := c | stuck "bytesToString: byte expected"
      pure (ForInStep.yield (s.push (UInt8.ofNat n.toNat))))).run P w = .ok (⟨acc.data ++ (ns.map fun n => UInt8.ofNat n.toNat).toArray⟩) w
  | [], acc => by simp
  | n :: ns, acc => by
    rw [List.map_cons, List.forIn_cons, Sem.run_bind]
    simp only [Sem.run_pure, Result.andThen_ok]
    rw [bytes_loop w ns]
    simp [ByteArray.push]

theorem bytesToString_ok (w : World) (b off n cap : Nat) (ns : List Int) (hl : ns.length = n)
    (h : ∀ j c, (ns.map fun n => Value.int .u8 n)[j]? = some c → w.cell? ⟨b, off + j, none⟩ = some c) :
    (Conv.bytesToString (.slice (some ⟨b, off, none⟩) n cap)).run P w = .ok (.string ⟨(ns.map fun n => UInt8.ofNat n.toNat).toArray⟩) w := by
  unfold Conv.bytesToString
  simp only [Sem.run_bind]
  rw [loadCells_ok w b off n _ (by simpa using hl) h]
  simp only [Result.andThen_ok]
  rw [← Array.forIn_toList]
  have := bytes_loop (P := P) w ns ByteArray.empty
  simp only at this ⊢
  erw [this]
  have e : ByteArray.empty.data = #[] := rfl
  simp only [e, Array.empty_append, Result.andThen_ok]
  rfl


/-- The cells of a slice of one-cell elements. -/
theorem lst_cells {o : Own} {xs : List V} {b off len cap : Nat} (h : VR g (.lst o xs) (.slice (some ⟨b, off, none⟩) len cap)) (h1 : ∀ (i : Nat) (x : V), xs[i]? = some x → x.cells = [x]) :
    ∃ cs : List Value, cs.length = xs.length ∧ len = xs.length ∧ VRs g xs cs.toArray ∧ ∀ (j : Nat) (c : Value), cs[j]? = some c → g.C b (off + j) = some c := by
  cases h with | lst o xs b off cap sz c h2 h3 h4 h5 h6 h7 =>
  refine ⟨(List.range xs.length).map fun i => c i 0, by simp, rfl, ⟨by simp, fun i x y hx hy => ?_⟩, fun j d hd => ?_⟩
  · simp only [List.getElem?_toArray, List.getElem?_map, Option.map_eq_some_iff] at hy
    obtain ⟨k, hk, rfl⟩ := hy
    have : k = i := by
      rw [List.getElem?_eq_some_iff] at hk
      obtain ⟨_, hk⟩ := hk
      simpa using hk.symm
    subst this
    exact h7 k x 0 x hx (by rw [h1 k x hx]; rfl)
  · simp only [List.getElem?_map, Option.map_eq_some_iff] at hd
    obtain ⟨k, hk, rfl⟩ := hd
    rw [List.getElem?_eq_some_iff] at hk
    obtain ⟨hlt, hk⟩ := hk
    have : k = j := by simpa using hk.symm
    subst this
    have hlt' : k < xs.length := by simpa using hlt
    have hx : xs[k]? = some xs[k] := by simp [hlt']
    have hs := h5 k _ hx
    rw [h1 k _ hx] at hs
    simp only [List.length_cons, List.length_nil, Nat.zero_add] at hs
    have := h6 k _ 0 _ hx (by rw [h1 k _ hx]; rfl)
    rw [← this, ← hs]; congr 1; omega

theorem toBytes_cells : ∀ {xs : List V} {b : List UInt8}, toBytes xs = some b → ∀ (i : Nat) (x : V), xs[i]? = some x → x.cells = [x]
  | [], _, _, i, x, h => by simp at h
  | y :: xs, b, hb, i, x, h => by
    unfold toBytes at hb
    split at hb
    · rename_i heq; cases heq
    · rename_i n r heq
      cases heq
      simp only [Option.map_eq_some_iff] at hb
      obtain ⟨b', hb', rfl⟩ := hb
      cases i with
      | zero => simp at h; subst h; rfl
      | succ i => exact toBytes_cells hb' i x (by simpa using h)
    · simp at hb

theorem convV_ok {src dst : TypeId} {x : V} {cx : Value} {v : V} (hx : VR g x cx) (h : convV P src dst x = some v) :
    PureOk P g v (convert src dst cx) := by
  unfold convV at h
  split at h
  · rename_i d k k' n hu hd
    cases hx
    simp only [Option.some.injEq] at h; subst h
    refine .mk _ (.int _ _) fun w => ?_
    unfold convert
    simp only [Sem.run_bind, run_underlying hu, run_underlying hd, Result.andThen_ok]
    rfl
  · rename_i d s hu hd
    cases hx
    rename_i s
    simp only [Option.some.injEq] at h; subst h
    refine .mk (.string s) (.str _) fun w => ?_
    unfold convert
    simp only [Sem.run_bind, run_underlying hu, run_underlying hd, Result.andThen_ok]
    cases d <;> rfl
  · rename_i e o xs hu hd
    split at h
    · rename_i he
      simp only [Option.map_eq_some_iff] at h
      obtain ⟨b, hb, rfl⟩ := h
      cases hx with
      | lnil o ho =>
        simp only [toBytes, Option.some.injEq] at hb
        subst hb
        refine .mk (.string .empty) (str_mk _ _ rfl) fun w => ?_
        unfold convert
        simp only [Sem.run_bind, run_underlying hu, run_underlying hd, run_underlying he, Result.andThen_ok]
        rfl
      | lst o xs bl off cap sz c h2 h3 h4 h5 h6 h7 =>
        obtain ⟨cs, hl, _, hr, hc⟩ := lst_cells (.lst o xs bl off cap sz c h2 h3 h4 h5 h6 h7) (toBytes_cells hb)
        obtain ⟨ns, hcs, rfl⟩ := toBytes_rel hr hb
        refine ⟨.string ⟨(ns.map fun n => UInt8.ofNat n.toNat).toArray⟩, str_mk _ _ rfl, fun w hw => ?_⟩
        unfold convert
        simp only [Sem.run_bind, run_underlying hu, run_underlying hd, run_underlying he, Result.andThen_ok]
        exact bytesToString_ok w bl off xs.length cap ns (by rw [← hl, hcs]; simp) (fun j d hd => hw _ _ _ (hc j d (by rw [hcs]; exact hd)))
    · simp at h
  · simp at h

end
end Go.Ev
