/- The pure operations of the evaluator are the model's. -/
import Derived.Test.YtfojnphbocojfaaGreatDoorEvRel
import Derived.Laws.Entries
import Derived.Laws.Tables
import Derived.Laws.Slices
import Derived.Lib.Strings
set_option linter.all false
set_option linter.unusedVariables false
set_option linter.unusedSimpArgs false
namespace Go.Ev
open Go Go.RowKit
variable [Glob]

/-- The cells that nothing turns read as they are known. -/
def Imm (g : Gh) (w : World) : Prop := ∀ (b o : Nat) (v : Value), g.C b o = some v → w.cell? ⟨b, o, none⟩ = some v

theorem WR.Imm {base : Nat} {g : Gh} {s : St} {w : World} (h : WR base g s w) : Imm g w := fun b o v e => (h.imm b o v e).1

/-- A computation that leaves every world alone, with one result, to which the abstract value stands. -/
def PureOk (P : Program) (g : Gh) (v : V) (x : Sem Value) : Prop := ∃ c, VR g v c ∧ ∀ w, Imm g w → x.run P w = .ok c w

section
variable {P : Program} {g : Gh}

theorem PureOk.mk {v : V} {x : Sem Value} (c : Value) (h : VR g v c) (hx : ∀ w, x.run P w = .ok c w) : PureOk P g v x := ⟨c, h, fun w _ => hx w⟩

theorem run_info {t : TypeId} {i : TypeInfo} (h : P.info? t = some i) (w : World) : (typeInfo t).run P w = .ok i w := by
  simp [typeInfo, h]

theorem kindT_spec {t : TypeId} {a : Bool} {n : Nat} (h : kindT P t = some (a, n)) :
    ∃ d i, P.underlying t = some d ∧ P.info? t = some i ∧ i.size = n ∧ a = (match d with | .struct _ | .array _ _ => true | _ => false) := by
  unfold kindT at h
  cases hi : P.info? t with
  | none => simp [hi] at h
  | some i =>
    cases hu : P.underlying t with
    | none => simp [hi, hu] at h
    | some d =>
      refine ⟨d, i, rfl, rfl, ?_⟩
      cases d <;> simp [hi, hu] at h <;> simp [h]

theorem kindT_run {t : TypeId} {a : Bool} {n : Nat} (h : kindT P t = some (a, n)) (w : World) :
    (isAgg t).run P w = .ok a w ∧ (sizeOf t).run P w = .ok n w := by
  obtain ⟨d, i, hu, hi, hn, ha⟩ := kindT_spec h
  refine ⟨?_, by simp [sizeOf, run_info hi, hn]⟩
  subst ha
  cases d <;> simp [isAgg, run_underlying hu]

theorem zeroT_spec {t : TypeId} {z : V} (h : zeroT P t = some z) :
    ∃ c, (∀ w, (zeroValue t).run P w = .ok c w) ∧ z = absV c := by
  unfold zeroT at h
  cases hi : P.info? t with
  | none => simp [hi] at h
  | some i =>
    cases hz : i.zero with
    | none => simp [hi, hz] at h
    | some c =>
      refine ⟨c, fun w => by simp [zeroValue, run_info hi, hz], ?_⟩
      simp [hi, hz] at h
      exact h.symm

/-! ### cells -/
theorem setAll_rel : ∀ {vs : List V} {cells : List V} {cs : Array Value} {ys : List Value} (off : Nat), VRs g cells cs → VRs g vs ys.toArray →
    VRs g (setAll cells off vs) ((ys.zipIdx.foldl (fun cs (p : Value × Nat) => cs.setIfInBounds (off + p.2) p.1) cs))
  | [], cells, cs, ys, off, h, hv => by
    have : ys = [] := by have := hv.1; simp at this; exact List.eq_nil_of_length_eq_zero this.symm
    subst this; exact h
  | v :: vs, cells, cs, [], off, h, hv => by have := hv.1; simp at this
  | v :: vs, cells, cs, y :: ys, off, h, hv => by
    have h0 : VR g v y := hv.2 0 v y (by simp) (by simp)
    have hr : VRs g vs ys.toArray := ⟨by have := hv.1; simpa using this, fun i a b ha hb => hv.2 (i + 1) a b (by simpa using ha) (by simpa using hb)⟩
    have := setAll_rel (off + 1) (h.set off h0) hr
    simp only [setAll, List.zipIdx_cons, List.foldl_cons, Nat.add_zero]
    have e : ∀ (l : List Value) (k : Nat) (acc : Array Value), (l.zipIdx (k + 1)).foldl (fun cs (p : Value × Nat) => cs.setIfInBounds (off + p.2) p.1) acc =
        (l.zipIdx k).foldl (fun cs (p : Value × Nat) => cs.setIfInBounds (off + 1 + p.2) p.1) acc := by
      intro l
      induction l with
      | nil => intro k acc; rfl
      | cons a l ih =>
        intro k acc
        simp only [List.zipIdx_cons, List.foldl_cons]
        rw [ih (k + 1)]
        congr 2
        omega
    rw [e]
    exact this

theorem zip_foldl (cells : Array Value) (off : Nat) (cs : Array Value) :
    cells.zipIdx.foldl (fun cs (c, j) => cs.setIfInBounds (off + j) c) cs = cells.toList.zipIdx.foldl (fun cs (p : Value × Nat) => cs.setIfInBounds (off + p.2) p.1) cs := by
  rw [← Array.foldl_toList, Array.toList_zipIdx]

theorem setAll_length (vs : List V) : ∀ (cells : List V) (off : Nat), (setAll cells off vs).length = cells.length := by
  induction vs with
  | nil => intro cells off; rfl
  | cons v vs ih => intro cells off; rw [setAll, ih]; simp

/-- Parts, place by place. -/
def PRs (g : Gh) (ps : List (Nat × V)) (qs : List (Nat × Value)) : Prop :=
  ps.length = qs.length ∧ ∀ (i : Nat) (p : Nat × V) (q : Nat × Value), ps[i]? = some p → qs[i]? = some q → p.1 = q.1 ∧ VR g p.2 q.2

theorem PRs.cons {p : Nat × V} {ps : List (Nat × V)} {q : Nat × Value} {qs : List (Nat × Value)} (h : PRs g (p :: ps) (q :: qs)) :
    p.1 = q.1 ∧ VR g p.2 q.2 ∧ PRs g ps qs :=
  ⟨(h.2 0 p q rfl rfl).1, (h.2 0 p q rfl rfl).2, by have := h.1; simpa using this, fun i a b ha hb => h.2 (i + 1) a b ha hb⟩

theorem PRs.map {ρa : Operand → V} {ρc : Operand → Value} (hρ : ∀ x, VR g (ρa x) (ρc x)) (l : List (Nat × Operand)) :
    PRs g (l.map fun p => (p.1, ρa p.2)) (l.map fun p => (p.1, ρc p.2)) := by
  refine ⟨by simp, fun i p q hp hq => ?_⟩
  simp only [List.getElem?_map, Option.map_eq_some_iff] at hp hq
  obtain ⟨a, ha, rfl⟩ := hp
  obtain ⟨b, hb, rfl⟩ := hq
  rw [ha] at hb
  cases hb
  exact ⟨rfl, hρ _⟩

theorem fill_rel {place : Nat → Option (Nat × Nat)} : ∀ {ps : List (Nat × V)} {qs : List (Nat × Value)} {cells cells' : List V} {cs : Array Value},
    VRs g cells cs → PRs g ps qs → fillV place cells ps = some cells' → ∃ cs', Instr.fill place cs qs = some cs' ∧ VRs g cells' cs'
  | [], [], cells, cells', cs, h, _, hf => by
    simp only [fillV, Option.some.injEq] at hf
    subst hf
    exact ⟨cs, rfl, h⟩
  | [], q :: qs, _, _, _, _, hp, _ => by have := hp.1; simp at this
  | p :: ps, [], _, _, _, _, hp, _ => by have := hp.1; simp at this
  | (i, v) :: ps, (j, y) :: qs, cells, cells', cs, h, hp, hf => by
    obtain ⟨e, hv, hp'⟩ := hp.cons
    simp only at e hv
    subst e
    simp only [fillV] at hf
    cases hpl : place i with
    | none => simp [hpl] at hf
    | some x =>
      obtain ⟨off, size⟩ := x
      simp only [hpl] at hf
      split at hf
      · rename_i hc
        obtain ⟨h1, h2, h3⟩ := hc
        have hcells := hv.cells h3
        have hs : y.cells.size = size := by rw [← hcells.1]; exact h1
        have := setAll_rel off h (ys := y.cells.toList) (by simpa using hcells)
        obtain ⟨cs', hcs, hr⟩ := fill_rel this hp' hf
        refine ⟨cs', ?_, hr⟩
        have hn : (y.cells.size ≠ size || decide (off + y.cells.size > cs.size)) = false := by
          have := h.1
          simp [hs]; omega
        simp only [Instr.fill, hpl]
        rw [hn, zip_foldl]
        simpa using hcs
      · simp at hf

theorem partV_ok {t : TypeId} {cs : List V} {ys : Array Value} {off : Nat} {v : V} (h : VRs g cs ys) (hp : partV P t cs off = some v) :
    ∃ c, VR g v c ∧ ∀ w, (part t ys off).run P w = .ok c w := by
  unfold partV at hp
  split at hp
  · rename_i n hk
    split at hp
    · rename_i hle
      simp only [Option.some.injEq] at hp
      subst hp
      refine ⟨.agg (ys.extract off (off + n)), ?_, fun w => ?_⟩
      · refine .agg _ _ ?_ fun i x y hx hy => ?_
        · simp; rw [h.1] at hle; rw [h.1]; omega
        · rw [List.getElem?_take] at hx
          split at hx
          · rw [List.getElem?_drop] at hx
            rw [Array.getElem?_extract] at hy
            split at hy
            · exact h.2 _ x y hx hy
            · simp at hy
          · simp at hx
      · have := kindT_run hk w
        simp [part, this.1, this.2]
    · simp at hp
  · rename_i n hk
    have hlt : off < ys.size := by
      have : off < cs.length := by
        rcases Nat.lt_or_ge off cs.length with h' | h'
        · exact h'
        · simp [List.getElem?_eq_none h'] at hp
      rw [← h.1]; exact this
    refine ⟨ys[off], h.2 off _ _ hp (by simp [hlt]), fun w => ?_⟩
    have := kindT_run hk w
    simp [part, this.1, hlt]
  · simp at hp

theorem run_places' {fields : Array Field} {places : List (Nat × Nat)} (h : placesT P fields = some places) (w : World) :
    (fields.mapM fun (f : Field) => (do pure (f.offset, ← sizeOf f.type) : Sem (Nat × Nat))).run P w = .ok places.toArray w := by
  have := run_places (P := P) w fields.toList places h
  rw [Array.mapM_eq_mapM_toList]
  simp only [Sem.run_map]
  have e : (fun f : Field => (do pure (f.offset, ← sizeOf f.type) : Sem (Nat × Nat))) = fun f => Prod.mk f.offset <$> sizeOf f.type := by
    funext f; simp
  rw [e, this]
  rfl

theorem buildV_ok {t : TypeId} {ps : List (Nat × V)} {qs : Array (Nat × Value)} {v : V} (h : PRs g ps qs.toList) (hb : buildV P t ps = some v) :
    PureOk P g v (Instr.build t qs) := by
  unfold buildV at hb
  split at hb
  · rename_i z fields hz hu
    split at hb
    · rename_i places hpl
      simp only [Option.map_eq_some_iff] at hb
      obtain ⟨cells, hf, rfl⟩ := hb
      obtain ⟨c, hzr, rfl⟩ := zeroT_spec hz
      obtain ⟨cs', hfill, hr⟩ := fill_rel (absV_cells g c) h hf
      refine .mk (.agg cs') (.agg _ _ hr.1 hr.2) fun w => ?_
      have hpp := run_places' hpl w
      unfold Instr.build
      rw [Sem.run_bind, hzr, Result.andThen_ok, Sem.run_bind, run_underlying hu, Result.andThen_ok]
      simp only
      rw [Sem.run_bind, hpp, Result.andThen_ok]
      simp only [List.getElem?_toArray]
      rw [hfill]
      rfl
    · simp at hb
  · rename_i z n elem hz hu
    split at hb
    · rename_i a sz hk
      simp only [Option.map_eq_some_iff] at hb
      obtain ⟨cells, hf, rfl⟩ := hb
      obtain ⟨c, hzr, rfl⟩ := zeroT_spec hz
      obtain ⟨cs', hfill, hr⟩ := fill_rel (absV_cells g c) h hf
      refine .mk (.agg cs') (.agg _ _ hr.1 hr.2) fun w => ?_
      unfold Instr.build
      rw [Sem.run_bind, hzr, Result.andThen_ok, Sem.run_bind, run_underlying hu, Result.andThen_ok]
      simp only
      rw [Sem.run_bind, (kindT_run hk w).2, Result.andThen_ok]
      rw [hfill]
      rfl
    · simp at hb
  · simp at hb

/-! ### arithmetic -/
theorem intV_ok {op : BinOp} {k : IntKind} {a b : Int} {v : V} (h : intV op k a b = some v) (t : TypeId) :
    PureOk P g v (binOp op t (.int k a) (.int k b)) := by
  unfold intV at h
  cases op <;> simp only [Option.some.injEq, reduceCtorEq] at h
  case quo =>
    split at h
    · simp at h
    · rename_i h0
      simp only [Option.some.injEq] at h
      subst h
      exact .mk _ (.int _ _) fun w => by simp only [binOp, Op.intDiv, if_neg h0, ne_eq, not_true_eq_false, if_false]; rfl
  case rem =>
    split at h
    · simp at h
    · rename_i h0
      simp only [Option.some.injEq] at h
      subst h
      exact .mk _ (.int _ _) fun w => by simp only [binOp, Op.intDiv, if_neg h0, ne_eq, not_true_eq_false, if_false]; rfl
  all_goals
    subst h
    first
    | exact .mk _ (.int _ _) fun w => by simp only [binOp, Op.intArith, ne_eq, not_true_eq_false, if_false]; rfl
    | exact .mk _ (.int _ _) fun w => by simp only [binOp, Op.intBits, ne_eq, not_true_eq_false, if_false]; rfl
    | exact .mk _ (.bool _) fun w => by simp only [binOp, Op.intCmp, ne_eq, not_true_eq_false, if_false]; rfl

theorem shiftV_ok {op : BinOp} {k k' : IntKind} {a b : Int} {v : V} (h : shiftV op k a b = some v) (t : TypeId) :
    PureOk P g v (binOp op t (.int k a) (.int k' b)) := by
  unfold shiftV at h
  split at h
  · simp at h
  · rename_i hb
    cases op <;> simp only [Option.some.injEq, reduceCtorEq] at h <;> subst h <;>
      exact .mk _ (.int _ _) fun w => by simp only [binOp, Op.shift, if_neg hb]; rfl

theorem bytesLess_eq (a b : List UInt8) : bytesLess a b = Op.bytesLess a b := by
  induction a generalizing b with
  | nil => cases b <;> rfl
  | cons x a ih => cases b with
    | nil => rfl
    | cons y b => simp [bytesLess, Op.bytesLess, ih]

theorem str_mk (l : List UInt8) (s : ByteArray) (h : s.data.toList = l) : VR g (.str l) (.string s) := h ▸ .str s

theorem strV_ok {op : BinOp} {a b : ByteArray} {v : V} (h : strV op a.data.toList b.data.toList = some v) (t : TypeId) :
    PureOk P g v (binOp op t (.string a) (.string b)) := by
  unfold strV at h
  cases op <;> simp only [Option.some.injEq, reduceCtorEq] at h
  case add =>
    split at h
    · rename_i hle
      simp only [Option.some.injEq] at h
      subst h
      refine .mk (.string (a ++ b)) (str_mk _ _ ?_) fun w => ?_
      · simp
      · have h1 : ¬ (((a.size + b.size : Nat) : Int) > IntKind.i64.max) := by
          have ha : a.size = a.data.toList.length := Lib.size_eq a
          have hb : b.size = b.data.toList.length := Lib.size_eq b
          rw [ha, hb]
          have : IntKind.i64.max = 9223372036854775807 := by decide
          rw [this]; omega
        simp only [binOp, Op.stringOp]
        rw [if_neg h1]
        rfl
    · simp at h
  all_goals
    subst h
    refine .mk _ (.bool _) fun w => ?_
    simp only [binOp, Op.stringOp, Lib.toList_data, bytesLess_eq]
    rfl

/-! ### equality -/
theorem beq_bytes (a b : ByteArray) : (a == b) = (a.data.toList == b.data.toList) := by
  cases a with | mk x => cases b with | mk y =>
    show (x == y) = (x.toList == y.toList)
    rw [Bool.eq_iff_iff]
    simp

theorem eqCell_ok {t : TypeId} {x y : V} {cx cy : Value} {b : Bool} (hx : VR g x cx) (hy : VR g y cy) (h : eqCell P t x y = some b) (d : Nat) (w : World) :
    (Op.equalIn (d + 1) t cx cy).run P w = .ok b w := by
  unfold eqCell at h
  split at h <;> rename_i hu <;> (try simp only [Option.some.injEq, reduceCtorEq] at h) <;> cases hx <;> cases hy
  all_goals first
    | (subst h; simp only [Op.equalIn, Sem.run_bind, run_underlying hu, Result.andThen_ok]; rfl)
    | skip
  case h_2.int.int k n k' n' =>
    split at h
    · rename_i e
      simp only [Option.some.injEq] at h
      subst h; subst e
      simp only [Op.equalIn, Sem.run_bind, run_underlying hu, Result.andThen_ok, if_true]; rfl
    · simp at h
  case h_3.str.str a b' =>
    subst h
    simp only [Op.equalIn, Sem.run_bind, run_underlying hu, Result.andThen_ok]
    rw [← beq_bytes]
    rfl

theorem eqFields_ok {xs ys : List V} {cx cy : Array Value} (hx : VRs g xs cx) (hy : VRs g ys cy) (d : Nat) (w : World) : ∀ (fs : List Field) (b : Bool),
    eqFields P xs ys fs = some b →
    (forIn (m := Sem) fs ((none, ()) : Option Bool × Unit) fun f _ => (if f.name ≠ "_" then do
        let x ← part f.type cx f.offset
        let y ← part f.type cy f.offset
        let e ← Op.equalIn (d + 1) f.type x y
        if !e then pure (ForInStep.done (some false, ())) else pure (ForInStep.yield (none, ()))
      else pure (ForInStep.yield (none, ())))).run P w = .ok (if b then (none, ()) else (some false, ())) w
  | [], b, h => by
    simp only [eqFields, Option.some.injEq] at h
    subst h; rfl
  | f :: fs, b, h => by
    rw [List.forIn_cons]
    simp only [eqFields] at h
    by_cases hn : f.name = "_"
    · rw [if_pos hn] at h
      have := eqFields_ok hx hy d w fs b h
      rw [Sem.run_bind, if_neg (by simpa using hn)]
      simpa using this
    · rw [if_neg hn] at h
      split at h
      · rename_i hk
        split at h
        · rename_i x y hxx hyy
          obtain ⟨a, n, hk'⟩ : ∃ a n, kindT P f.type = some (a, n) := by
            cases hkk : kindT P f.type with
            | none => simp [hkk] at hk
            | some p => exact ⟨p.1, p.2, rfl⟩
          have ha : a = false := by simpa [hk'] using hk
          subst ha
          have hpx : partV P f.type xs f.offset = some x := by simp [partV, hk', hxx]
          have hpy : partV P f.type ys f.offset = some y := by simp [partV, hk', hyy]
          obtain ⟨c1, hr1, hrun1⟩ := partV_ok hx hpx
          obtain ⟨c2, hr2, hrun2⟩ := partV_ok hy hpy
          rw [Sem.run_bind, if_pos (by simpa using hn), Sem.run_bind, hrun1, Result.andThen_ok, Sem.run_bind, hrun2, Result.andThen_ok]
          split at h
          · rename_i he
            have := eqCell_ok hr1 hr2 he d w
            rw [Sem.run_bind, this, Result.andThen_ok]
            have := eqFields_ok hx hy d w fs b h
            simpa using this
          · rename_i he
            have := eqCell_ok hr1 hr2 he d w
            rw [Sem.run_bind, this, Result.andThen_ok]
            simp only [Option.some.injEq] at h
            subst h
            rfl
          · simp at h
        · simp at h
      · simp at h

theorem eqV_ok {t : TypeId} {x y : V} {cx cy : Value} {b : Bool} (hx : VR g x cx) (hy : VR g y cy) (h : eqV P t x y = some b) (w : World) :
    (Op.equal t cx cy).run P w = .ok b w ∧ ∀ ox oy op, (eqGuard op t ox oy cx cy).run P w = .ok () w := by
  unfold eqV at h
  split at h
  · rename_i fields xs ys hu
    split at h
    · simp at h
    · rename_i hg
      simp only [Bool.or_eq_true, not_or, Bool.not_eq_true] at hg
      cases hx; cases hy
      rename_i cx h1 h2 cy h3 h4
      constructor
      · have key : ∀ d, (Op.equalIn (d + 1 + 1) t (.agg cx) (.agg cy)).run P w = .ok b w := by
          intro d
          have := eqFields_ok (P := P) ⟨h1, h2⟩ ⟨h3, h4⟩ d w fields.toList b h
          rw [Op.equalIn]
          simp only [Sem.run_bind, run_underlying hu, Result.andThen_ok, run_program, hg.1, Bool.false_eq_true, if_false]
          rw [← Array.forIn_toList]
          erw [this]
          cases b <;> rfl
        exact key 9998
      · intro ox oy op
        unfold eqGuard
        cases op <;> first | rfl | (simp only [Sem.run_bind, run_program, Result.andThen_ok, hg.2]; rfl) | skip
        all_goals
          show Sem.run P (do
            let p ← program
            let q ← program
            if (!p.eqGuardType q.depth t) = true then pure () else _) w = _
          simp only [Sem.run_bind, run_program, Result.andThen_ok, hg.2]
          rfl
  · simp at h
  · simp at h
  · rename_i x y h1 h2 h3
    refine ⟨eqCell_ok hx hy h 9999 w, fun ox oy op => ?_⟩
    unfold eqCell at h
    split at h <;> (try simp only [reduceCtorEq] at h) <;> cases hx <;> cases hy <;> simp only [eqGuard] <;> split <;> rfl

end
end Go.Ev
