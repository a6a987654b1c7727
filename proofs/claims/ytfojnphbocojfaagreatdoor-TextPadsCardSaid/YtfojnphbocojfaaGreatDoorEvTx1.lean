/- The text seat: what is known of its package-level variables; functions taken from the shelf. -/
import Derived.Test.YtfojnphbocojfaaGreatDoorEvExt
import Derived.Test.YtfojnphbocojfaaGreatDoorTryzShelf
import Derived.Lib.AppendIntMem
set_option linter.all false
set_option linter.unusedVariables false
set_option linter.unusedSimpArgs false
namespace Go.Ev
open Go Go.RowKit Go.Proofs

@[reducible] def txGlob (B : Nat) : Glob where
  low := B
  I w := Lib.TabBelow Tryz.prog B w "strings.asciiSpace" .u8 Lib.asciiSpaceTab
  stays := fun h hb hi w'' hw => hi w'' ((hb.mono h).trans hw)

def indexByteV : List V → St → Out V
  | [.str l, .int .u8 c], s => .ok (.int .i64 (Lib.indexByte l c.toNat.toUInt8)) s
  | _, _ => .err

def fieldsV : List V → St → Out V
  | [.str l], s => if l.length < 4294967281 ∧ l.all (fun b => decide (b.toNat < 128)) = true then .ok (.lst .exact ((Lib.fields l).map .str)) s else .err
  | _, _ => .err

def repeatV : List V → St → Out V
  | [.str l, .int .i64 n], s => if 0 ≤ n ∧ n.toNat ≤ 9223372036854775807 ∧ l.length * n.toNat ≤ 140737488355328 then .ok (.str (Lib.repeatL l n.toNat)) s else .err
  | _, _ => .err

section
variable [Glob]

theorem indexByte_ok : CallOk Tryz.prog 93 indexByteV := by
  intro args s base g w cargs K Kp hw hargs h
  unfold indexByteV at h
  split at h
  · obtain ⟨a, b, rfl, ha, hb⟩ := hargs.two
    obtain ⟨ba, rfl, rfl⟩ := str_list ha
    cases hb
    exact callOk_grown hw h (.int _ _) ((Tryz.strings_IndexByte ba _ w).mono fun e w' ⟨he, e'⟩ => ⟨he, e' ▸ Below.refl _ _⟩)
  · exact h.elim

theorem repeat_ok : CallOk Tryz.prog 57 repeatV := by
  intro args s base g w cargs K Kp hw hargs h
  unfold repeatV at h
  split at h
  · rename_i l n
    split at h
    · rename_i hc
      obtain ⟨a, b, rfl, ha, hb⟩ := hargs.two
      obtain ⟨ba, rfl, rfl⟩ := str_list ha
      cases hb
      have hn : (n.toNat : Int) = n := Int.toNat_of_nonneg hc.1
      have hsz : ba.size = ba.data.toList.length := (Array.length_toList (xs := ba.data)).symm
      have key := Tryz.strings_Repeat ba n.toNat w hc.2.1 (by rw [hsz]; exact hc.2.2)
      rw [hn] at key
      have hv : VR g (.str (Lib.repeatL ba.data.toList n.toNat)) (.string ⟨(Lib.repeatL ba.data.toList n.toNat).toArray⟩) := by
        have := VR.str (g := g) ⟨(Lib.repeatL ba.data.toList n.toNat).toArray⟩
        simpa using this
      exact callOk_grown hw h hv key
    · exact h.elim
  · exact h.elim
end

theorem fields_ok (B : Nat) : letI := txGlob B; CallOk Tryz.prog 92 fieldsV := by
  letI := txGlob B
  intro args s base g w cargs K Kp hw hargs h
  unfold fieldsV at h
  split at h
  · rename_i l
    split at h
    · rename_i hc
      obtain ⟨a, rfl, ha⟩ := hargs.one
      obtain ⟨ba, rfl, rfl⟩ := str_list ha
      have hsz : ba.size = ba.data.toList.length := (Array.length_toList (xs := ba.data)).symm
      have htab : Lib.TabIs Tryz.prog w "strings.asciiSpace" .u8 Lib.asciiSpaceTab := Lib.TabBelow.here hw.glob.2
      refine (Tryz.strings_Fields ba w (by rw [hsz]; exact hc.1) (fun j b hb => by
        have := List.all_eq_true.1 hc.2 b (List.mem_of_getElem? hb)
        simpa using this) htab).mono fun e w' ⟨he, hw'⟩ => ?_
      subst he; subst hw'
      obtain ⟨h1, h2⟩ := hw.claim ((Lib.fields ba.data.toList).map fun l => Value.string ⟨l.toArray⟩).toArray 9 (0, 0) (Lib.fields ba.data.toList).length
      refine ⟨_, s, _, h, h2, h1, ?_⟩
      have hl : (Lib.fields ba.data.toList).length = ((Lib.fields ba.data.toList).map V.str).length := by simp
      have key := VR.lst (g := g.claim w.heap.size ((Lib.fields ba.data.toList).map fun l => Value.string ⟨l.toArray⟩).toArray (Lib.fields ba.data.toList).length) .exact ((Lib.fields ba.data.toList).map V.str) w.heap.size 0
        (Lib.fields ba.data.toList).length 1 (fun i _ => Value.string ⟨((Lib.fields ba.data.toList).getD i []).toArray⟩) (by simp) (fun _ => hl) (fun _ => nofun)
        (fun i x hx => by
          simp only [List.getElem?_map, Option.map_eq_some_iff] at hx
          obtain ⟨y, _, rfl⟩ := hx; rfl)
        (fun i x j y hx hy => by
          simp only [List.getElem?_map, Option.map_eq_some_iff] at hx
          obtain ⟨z, hz, rfl⟩ := hx
          have hj : j = 0 := by
            cases j with
            | zero => rfl
            | succ j => simp [V.cells] at hy
          subst hj
          have hlt : i < (Lib.fields ba.data.toList).length := by
            rcases Nat.lt_or_ge i (Lib.fields ba.data.toList).length with h' | h'
            · exact h'
            · rw [List.getElem?_eq_none h'] at hz; simp at hz
          simp [Gh.claim, hlt])
        (fun i x j y hx hy => by
          simp only [List.getElem?_map, Option.map_eq_some_iff] at hx
          obtain ⟨z, hz, rfl⟩ := hx
          have hj : j = 0 := by
            cases j with
            | zero => rfl
            | succ j => simp [V.cells] at hy
          subst hj
          simp only [V.cells, List.getElem?_cons_zero, Option.some.injEq] at hy
          subst hy
          simp only [List.getD_eq_getElem?_getD, hz, Option.getD_some]
          have := VR.str (g := g.claim w.heap.size ((Lib.fields ba.data.toList).map fun l => Value.string ⟨l.toArray⟩).toArray (Lib.fields ba.data.toList).length) ⟨z.toArray⟩
          simpa using this)
      simpa using key
    · exact h.elim
  · exact h.elim
end Go.Ev
