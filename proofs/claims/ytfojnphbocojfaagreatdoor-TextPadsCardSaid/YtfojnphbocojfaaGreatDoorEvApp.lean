/- Slices that are made, and append. -/
import Derived.Test.YtfojnphbocojfaaGreatDoorEvOp
import Derived.Laws.MakeOwn
set_option linter.all false
set_option linter.unusedVariables false
set_option linter.unusedSimpArgs false
namespace Go.Ev
open Go Go.RowKit
variable [Glob]

section
variable {P : Program} {base : Nat} {g : Gh} {s : St} {w : World} {a : Act}
variable {dst : Option Tmp} {type : TypeId} {pos : String} {after : Array Edge} {guard : Option (Nat × Bool)}

theorem zeroT_cells {t : TypeId} {z : V} {c : Value} (h : ∀ w, (zeroValue t).run P w = .ok c w) (hz : z = absV c) (g : Gh) : VRs g z.cells c.cells := hz ▸ absV_cells g c

theorem buildSlice_ok {t e : TypeId} {len n : Nat} {ag : Bool} {z : V} {parts : Array (Nat × Operand)} {ps : List (Nat × V)} {xs : List V} {mu : Bool} (hw : WR base g s w)
    (hu : P.underlying t = some (.slice e)) (hk : kindT P e = some (ag, n)) (hz : zeroT P e = some z) (hc : ¬ (n = 0 ∨ 65536 < len * n ∨ z.cells.length ≠ n))
    (hp : PRs g ps (parts.toList.map fun p => (p.1, a.eval p.2))) (hput : putParts P e (List.replicate len z) ps = some xs) :
    OpOk P base g w ⟨dst, .buildSlice t len parts, type, pos, after, guard⟩ a
      (if mu then .ok (.sl s.heap.length 0 len len) { s with heap := s.heap ++ [.row e (xs.flatMap V.cells)] } else .ok (.lst .exact xs) s) := by
  have h0 : n ≠ 0 := fun e => hc (.inl e)
  have hle : len * n ≤ 65536 := Nat.le_of_not_lt fun e => hc (.inr (.inl e))
  have hzn : z.cells.length = n := Decidable.byContradiction fun e => hc (.inr (.inr e))
  obtain ⟨c, hzr, hze⟩ := zeroT_spec hz
  have hzc := zeroT_cells hzr hze g
  obtain ⟨cs, hfill, hl⟩ := fillL hk (Lies.zero (len := len) hzc hzn h0) hp hput
  have hlen : xs.length = len := by
    have : ∀ (ps : List (Nat × V)) (l l' : List V), putParts P e l ps = some l' → l'.length = l.length := by
      intro ps
      induction ps with
      | nil => intro l l' h; simp only [putParts, Option.some.injEq] at h; rw [h]
      | cons p ps ih =>
        intro l l' h
        obtain ⟨i, v⟩ := p
        simp only [putParts] at h
        split at h
        · have := ih _ _ h; simpa using this
        · simp at h
    have := this _ _ _ hput
    simpa using this
  have hrun : (execOp a.eval ⟨dst, .buildSlice t len parts, type, pos, after, guard⟩).run P w = .ok (.value (.slice (some ⟨w.heap.size, 0, none⟩) len len)) (w.alloc (.cells cs e)) := by
    unfold execOp Instr.buildSlice
    simp only [Sem.run_bind, run_underlying hu, Result.andThen_ok, (kindT_run hk w).2]
    rw [if_neg (by omega)]
    by_cases h : len * n = 0
    · have e0 : ∀ f : Nat → Value, (Array.range (len * n)).map f = #[] := by intro f; simp [h]
      rw [e0] at hfill
      rw [if_pos h]
      simp only [Sem.run_bind, Sem.run_pure, Result.andThen_ok, e0, Array.toList_map, hfill, Go.newRow, run_newObj]
      simp
    · rw [if_neg h]
      simp only [Sem.run_bind, hzr w, Sem.run_pure, Result.andThen_ok, Array.toList_map, hfill, Go.newRow, run_newObj]
      simp
  cases mu with
  | true =>
    have hf := hl.flat
    have hsub := g.sub_addLoc w.heap.size
    obtain ⟨h1, h2⟩ := hw.alloc (k := .row e (xs.flatMap V.cells)) (o := .cells cs e) ⟨rfl, by rw [hf.1]; exact Nat.le_refl _, (hf.mono hsub).2, fun o _ ⟨_, h⟩ => by simp at h⟩
    refine .value hrun h2 h1 (.sl _ _ _ _ _ _ _ ?_ (Nat.le_refl _) (Nat.le_refl _) fun _ => rfl)
    simp only [Gh.addLoc]
    rw [← hw.len, List.getElem?_append_right (Nat.le_refl _)]
    simp
  | false =>
    obtain ⟨g', h1, h2, h3⟩ := lst_new (o' := .exact) (cap := xs.length) (t := e) (0, 0) #[] hw (fun g' hs => hl.mono hs) (Nat.le_refl _) (fun _ => rfl) (fun i => by simp)
    simp only [Array.append_empty] at h1 h2
    rw [hlen] at h3
    exact .value hrun h1 h2 h3

theorem makeSlice_ok {t e : TypeId} {n : Nat} {ag : Bool} {z : V} {x y : Operand} {kl kc : IntKind} {l c : Int} {mu : Bool} (hw : WR base g s w)
    (hu : P.underlying t = some (.slice e)) (hk : kindT P e = some (ag, n)) (hz : zeroT P e = some z)
    (hx : a.eval x = .int kl l) (hy : a.eval y = .int kc c)
    (hc : 0 ≤ l ∧ l ≤ c ∧ c ≤ 1099511627776 ∧ roomB P e c.toNat ∧ z.cells.length = n ∧ n ≠ 0) :
    OpOk P base g w ⟨dst, .makeSlice t x y, type, pos, after, guard⟩ a (if mu then .ok (.sl s.heap.length 0 l.toNat c.toNat) { s with heap := s.heap ++ [.row e ((List.replicate c.toNat z).flatMap V.cells)] }
            else if l = c then .ok (.lst .exact (List.replicate c.toNat z)) s else .err) := by
  obtain ⟨hl0, hlc, hcm, hroom, hzn, h0⟩ := hc
  obtain ⟨d, i, hue, hie, hin, _⟩ := kindT_spec hk
  obtain ⟨cz, hiz, hze⟩ : ∃ cz, i.zero = some cz ∧ z = absV cz := by
    unfold zeroT at hz
    rw [hie] at hz
    cases hz' : i.zero with
    | none => simp [hz'] at hz
    | some cz => simp [hz'] at hz; exact ⟨cz, rfl, hz.symm⟩
  have hzc : VRs g z.cells cz.cells := hze ▸ absV_cells g cz
  have hl := Lies.zero (len := c.toNat) hzc hzn h0
  have hb : bytesT P e = i.bytes := by simp [bytesT, hie]
  have hrb : c.toNat * i.bytes ≤ 35184372088832 := by
    unfold roomB at hroom
    simp only [Bool.and_eq_true, decide_eq_true_eq, hb] at hroom
    exact hroom.1
  have hby : (i.bytes : Int) * c ≤ 281474976710656 := by
    have e1 : (c.toNat : Int) = c := by omega
    have h3 : (i.bytes : Int) * c = ((c.toNat * i.bytes : Nat) : Int) := by
      rw [Int.natCast_mul, e1, Int.mul_comm]
    rw [h3]
    omega
  have hrun : (execOp a.eval ⟨dst, .makeSlice t x y, type, pos, after, guard⟩).run P w =
      .ok (.value (.slice (some ⟨w.heap.size, 0, none⟩) l.toNat c.toNat)) (w.alloc (.cells ((Array.range (c.toNat * n)).map (cz.cells[· % cz.cells.size]!)) e)) := by
    have := run_make (P := P) w t e i cz hu hie hiz kl kc l c hl0 hlc hby (by omega)
    unfold execOp
    simp only [hx, hy, Sem.run_bind, this, Result.andThen_ok, Sem.run_pure, madeCells, hin]
  cases mu with
  | true =>
    have hf := hl.flat
    have hsub := g.sub_addLoc w.heap.size
    obtain ⟨h1, h2⟩ := hw.alloc (k := .row e ((List.replicate c.toNat z).flatMap V.cells)) (o := .cells _ e) ⟨rfl, by rw [hf.1]; exact Nat.le_refl _, (hf.mono hsub).2, fun o _ ⟨_, h⟩ => by simp at h⟩
    refine .value hrun h2 h1 (.sl _ _ _ _ _ _ _ ?_ (by omega) (Nat.le_refl _) fun _ => rfl)
    simp only [Gh.addLoc]
    rw [← hw.len, List.getElem?_append_right (Nat.le_refl _)]
    simp
  | false =>
    simp only [Bool.false_eq_true, if_false]
    split
    · rename_i hlc'
      subst hlc'
      obtain ⟨g', h1, h2, h3⟩ := lst_new (o' := .exact) (cap := l.toNat) (t := e) (0, 0) #[] hw (fun g' hs => hl.mono hs) (by simp) (fun _ => by simp) (fun i => by simp)
      simp only [Array.append_empty, List.length_replicate] at h1 h2 h3
      exact .value hrun h1 h2 h3
    · exact .err

/-! ### strings and bytes -/
theorem freeze_alloc (w : World) (cs : Array Value) (e : TypeId) (n : Nat) :
    (w.alloc (.cells cs e)).freeze ⟨w.heap.size, n, none⟩ 1 = w.alloc (.cells cs e (n, n + 1)) := by
  unfold World.freeze World.alloc
  simp only [Nat.one_ne_zero, if_false]
  congr 1
  apply Array.ext_getElem?
  intro k
  rw [Array.getElem?_modify, Array.getElem?_push, Array.getElem?_push]
  by_cases h : w.heap.size = k
  · subst h; simp
  · rw [if_neg h, if_neg (fun h' => h h'.symm), if_neg (fun h' => h h'.symm)]

theorem bytesStr_ok {src d e : TypeId} {x : Operand} {id off len cap : Nat} {u : TypeId} {cells : List V} {b : List UInt8} (hw : WR base g s w)
    (hus : P.underlying src = some (.slice e)) (hud : P.underlying d = some .string) (hue : P.underlying e = some (.int .u8)) (hx : VR g (.sl id off len cap) (a.eval x))
    (hb : s.heap[id]? = some (.row u cells)) (hle : off + len ≤ cells.length) (hby : toBytes ((cells.drop off).take len) = some b) :
    OpOk P base g w ⟨dst, .convert src d x, type, pos, after, guard⟩ a (.ok (.str b) s) := by
  generalize hxv : a.eval x = cx at hx
  cases hx with
  | sl _ _ _ _ bl off' cap' h1 h0 h2 h3 =>
    obtain ⟨ob, hob, hr⟩ := hw.blk id _ bl hb h1
    cases ob <;> simp only [BR] at hr
    rename_i cs t' fz
    obtain ⟨rfl, hlen, hrel, _⟩ := hr
    by_cases hl0 : len = 0
    · subst hl0
      simp only [List.take_zero, toBytes, Option.some.injEq] at hby
      subst hby
      refine .same hw (c := .string .empty) ?_ (str_mk _ _ rfl)
      unfold execOp convert
      simp only [hxv, Sem.run_bind, run_underlying hus, run_underlying hud, run_underlying hue, Result.andThen_ok]
      rfl
    · have hoff := h3 (by omega)
      subst hoff
      have hcl : ((cs.toList.drop off').take len).length = len := by simp; omega
      have hvr : VRs g ((cells.drop off').take len) ((cs.toList.drop off').take len).toArray := by
        refine ⟨by simp; omega, fun i x y hx hy => ?_⟩
        have hx' := (sub_get hx).1
        simp only [List.getElem?_toArray] at hy
        rw [List.getElem?_take] at hy
        split at hy
        · rw [List.getElem?_drop] at hy
          exact hrel _ _ _ hx' (by simpa using hy)
        · simp at hy
      obtain ⟨ns, hns, rfl⟩ := toBytes_rel hvr hby
      refine .same hw (c := .string ⟨(ns.map fun n => UInt8.ofNat n.toNat).toArray⟩) ?_ (str_mk _ _ rfl)
      unfold execOp convert
      simp only [hxv, Sem.run_bind, run_underlying hus, run_underlying hud, run_underlying hue, Result.andThen_ok]
      rw [bytesToString_ok w bl off' len cap' ns (by rw [hns] at hcl; simpa using hcl) (fun j c hj => by
        rw [cell_of w bl _ cs t' fz hob]
        rw [← hns, List.getElem?_take] at hj
        split at hj
        · rw [List.getElem?_drop] at hj; simpa using hj
        · simp at hj)]
      rfl

end
end Go.Ev
