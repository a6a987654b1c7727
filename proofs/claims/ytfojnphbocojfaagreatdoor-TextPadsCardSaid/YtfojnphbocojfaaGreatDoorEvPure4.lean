/- The pure operations of the evaluator are the model's, fourth part: all of them in one theorem. -/
import Derived.Test.YtfojnphbocojfaaGreatDoorEvPure3
set_option linter.all false
set_option linter.unusedVariables false
set_option linter.unusedSimpArgs false
namespace Go.Ev
open Go Go.RowKit
variable [Glob]

section
variable {P : Program} {g : Gh}

/-- An address into cells that nothing turns: a part of what lies there. -/
theorem eptr_part {cs : List V} {b off o : Nat} {t : TypeId} {v : V} (h : VR g (.eptr (.agg cs)) (.pointer (some ⟨b, off, none⟩))) (hp : partV P t cs o = some v)
    (hflat : ∀ (i : Nat) (x : V), cs[i]? = some x → x.cells = [x]) : VR g (.eptr v) (.pointer (some ⟨b, off + o, none⟩)) := by
  cases h with
  | eptr x b off c h1 h2 =>
    unfold partV at hp
    split at hp
    · rename_i n hk
      split at hp
      · simp only [Option.some.injEq] at hp
        subst hp
        refine .eptr _ b (off + o) (fun j => c (o + j)) (fun j y hj => ?_) (fun j y hj => ?_)
        · have := (sub_get (l := o) (n := n) hj).1
          rw [← h1 (o + j) y this]; congr 1; omega
        · exact h2 _ _ (sub_get (l := o) (n := n) hj).1
      · simp at hp
    · rename_i n hk
      have hv := hflat o v hp
      refine .eptr _ b (off + o) (fun j => c (o + j)) (fun j y hj => ?_) (fun j y hj => ?_)
      · rw [hv] at hj
        cases j with
        | zero => simp at hj; subst hj; have := h1 o v hp; simpa using this
        | succ j => simp at hj
      · rw [hv] at hj
        cases j with
        | zero => simp at hj; subst hj; exact h2 o v hp
        | succ j => simp at hj
    · simp at hp

theorem fieldAddrV_ok {s : TypeId} {x : V} {cx : Value} {f : Nat} {v : V} (hx : VR g x cx) (h : fieldAddrV P s x f = some v) :
    PureOk P g v (Instr.fieldAt s cx f) := by
  unfold fieldAddrV at h
  split at h
  · rename_i fields hu
    split at h
    · rename_i f' hf
      split at h
      · rename_i a n hk
        split at h
        · simp at h
        · rename_i hn
          have hrun : ∀ (w : World) (b off : Nat), (Instr.fieldAt s (.pointer (some ⟨b, off, none⟩)) f).run P w = .ok (.pointer (some ⟨b, off + f'.offset, none⟩)) w := by
            intro w b off
            unfold Instr.fieldAt
            simp only [Sem.run_bind, run_underlying hu, Result.andThen_ok, hf, Instr.sureAddr, Sem.run_pure, fieldPlace, (kindT_run hk w).2, if_neg hn, add_none]
          split at h
          · simp only [Option.some.injEq] at h
            subst h
            cases hx with
            | ptr _ _ b h1 => exact .mk _ (.ptr _ _ b h1) fun w => hrun w b _
          · rename_i cs
            simp only [Option.map_eq_some_iff] at h
            obtain ⟨y, hy, rfl⟩ := h
            cases hx with
            | eptr x b off c h1 h2 =>
              split at hy
              · rename_i hflat
                exact .mk _ (eptr_part (P := P) (.eptr _ b off c h1 h2) hy (fun i x hx => by
                  have := List.all_eq_true.1 hflat x (List.mem_of_getElem? hx)
                  cases x <;> simp_all [flatB, V.cells])) fun w => hrun w b off
              · simp at hy
          · simp at h
      · simp at h
    · simp at h
  · simp at h


theorem fieldV_ok {t : TypeId} {x : V} {cx : Value} {f : Nat} {v : V} (hx : VR g x cx) (h : fieldV P t x f = some v) :
    PureOk P g v (Instr.field t cx f) := by
  unfold fieldV at h
  split at h
  · rename_i fields cs hu
    split at h
    · rename_i f' hf
      cases hx with
      | agg cs cs' h1 h2 =>
        obtain ⟨c, hc, hr⟩ := partV_ok (P := P) ⟨h1, h2⟩ h
        refine .mk c hc fun w => ?_
        unfold Instr.field
        simp only [Sem.run_bind, run_underlying hu, Result.andThen_ok, hf, asAgg, Sem.run_pure, hr w]
    · simp at h
  · simp at h

theorem indexAddrV_ok {t : TypeId} {x ix : V} {cx cix : Value} {v : V} (hx : VR g x cx) (hi : VR g ix cix) (h : indexAddrV P t x ix = some v) :
    PureOk P g v (Instr.indexAt t cx cix) := by
  unfold indexAddrV at h
  split at h
  · rename_i e o xs k i hu
    cases hi
    split at h
    · rename_i h0
      split at h
      · rename_i y hy
        split at h
        · rename_i hs
          simp only [Option.some.injEq] at h
          subst h
          have hk := sizedB_kind hs
          have hlt : i.toNat < xs.length := by
            rcases Nat.lt_or_ge i.toNat xs.length with h' | h'
            · exact h'
            · simp [List.getElem?_eq_none h'] at hy
          cases hx with
          | lnil o ho => simp at hy
          | lst o xs b off cap sz c h2 h3 h4 h5 h6 h7 =>
            have hsz : sz = y.cells.length := (h5 _ _ hy).symm
            refine .mk (.pointer (some ⟨b, off + i.toNat * sz, none⟩)) (.eptr y b _ (c i.toNat) (fun j z hz => h6 _ _ _ _ hy hz) (fun j z hz => h7 _ _ _ _ hy hz)) fun w => ?_
            unfold Instr.indexAt
            simp only [Sem.run_bind, asIntOf, Sem.run_pure, Result.andThen_ok, run_underlying hu]
            rw [if_pos (by omega)]
            simp only [Sem.run_bind, (kindT_run hk w).2, Result.andThen_ok, add_none, ← hsz]
            rfl
        · simp at h
      · simp at h
    · simp at h
  · rename_i e id off len cap k i hu
    cases hi
    split at h
    · rename_i a z hk
      split at h
      · rename_i hc
        simp only [Option.some.injEq] at h
        subst h
        cases hx with
        | sl id off len cap b off' cap' h1 h0 h2 h3 =>
          have := h3 (by omega)
          subst this
          refine .mk (.pointer (some ⟨b, off' + i.toNat * z, none⟩)) (.ptr _ _ _ h1) fun w => ?_
          unfold Instr.indexAt
          simp only [Sem.run_bind, asIntOf, Sem.run_pure, Result.andThen_ok, run_underlying hu]
          rw [if_pos hc]
          simp only [Sem.run_bind, (kindT_run hk w).2, Result.andThen_ok, add_none]
          rfl
      · simp at h
    · simp at h
  · rename_i n e id off k i hu
    cases hi
    split at h
    · rename_i a z hk
      split at h
      · rename_i hc
        simp only [Option.some.injEq] at h
        subst h
        cases hx with
        | ptr _ _ b h1 =>
          refine .mk (.pointer (some ⟨b, off + i.toNat * z, none⟩)) (.ptr _ _ _ h1) fun w => ?_
          unfold Instr.indexAt
          simp only [Sem.run_bind, asIntOf, Sem.run_pure, Result.andThen_ok, run_underlying hu, Instr.sureAddr]
          rw [if_pos hc]
          simp only [Sem.run_bind, (kindT_run hk w).2, Result.andThen_ok, add_none]
          rfl
      · simp at h
    · simp at h
  · rename_i n e cs k i hu
    cases hi
    split at h
    · rename_i a z hk
      split at h
      · rename_i hc
        simp only [Option.map_eq_some_iff] at h
        obtain ⟨y, hy, rfl⟩ := h
        cases hx with
        | eptr _ b off c h1 h2 =>
          refine .mk (.pointer (some ⟨b, off + i.toNat * z, none⟩)) (eptr_part (P := P) (.eptr _ b off c h1 h2) hy (fun i x hx => by
                  have := List.all_eq_true.1 hc.2.2 x (List.mem_of_getElem? hx)
                  cases x <;> simp_all [flatB, V.cells])) fun w => ?_
          unfold Instr.indexAt
          simp only [Sem.run_bind, asIntOf, Sem.run_pure, Result.andThen_ok, run_underlying hu, Instr.sureAddr]
          rw [if_pos ⟨hc.1, hc.2.1⟩]
          simp only [Sem.run_bind, (kindT_run hk w).2, Result.andThen_ok, add_none]
          rfl
      · simp at h
    · simp at h
  · simp at h

theorem indexV_ok {t : TypeId} {x ix : V} {cx cix : Value} {v : V} (hx : VR g x cx) (hi : VR g ix cix) (h : indexV P t x ix = some v) :
    PureOk P g v (Instr.index t cx cix) := by
  unfold indexV at h
  split at h
  · rename_i s k i hu
    cases hi; cases hx
    rename_i s
    split at h
    · rename_i h0
      simp only [Option.map_eq_some_iff] at h
      obtain ⟨b, hb, rfl⟩ := h
      refine .mk (.int .u8 b.toNat) (.int _ _) fun w => ?_
      unfold Instr.index
      simp only [Sem.run_bind, asIntOf, Sem.run_pure, Result.andThen_ok, run_underlying hu]
      have : s[i.toNat]? = some b := by
        rw [← hb, Array.getElem?_toList, getElem?_def, getElem?_def]
        rfl
      simp only [if_pos h0, this]
      rfl
    · simp at h
  · rename_i n e cs k i hu
    cases hi
    split at h
    · rename_i a z hk
      split at h
      · rename_i hc
        cases hx with
        | agg cs cs' h1 h2 =>
          obtain ⟨c, hcc, hr⟩ := partV_ok (P := P) ⟨h1, h2⟩ h
          refine .mk c hcc fun w => ?_
          unfold Instr.index
          simp only [Sem.run_bind, asIntOf, Sem.run_pure, Result.andThen_ok, run_underlying hu]
          rw [if_pos hc]
          simp only [Sem.run_bind, (kindT_run hk w).2, Result.andThen_ok, hr w]
      · simp at h
    · simp at h
  · simp at h


theorem lenV_ok {t ty : TypeId} {x : V} {cx : Value} {v : V} {ts : Array TypeId} {cs : Array Value} (ht : ts[0]? = some t) (hc : cs[0]? = some cx) (hx : VR g x cx) (h : lenV P t x = some v) :
    PureOk P g v (Builtin.len_ ts ty cs) := by
  unfold lenV at h
  split at h <;> rename_i hu <;> simp only [Option.some.injEq, reduceCtorEq] at h <;> subst h
  · cases hx
    rename_i s
    refine .mk (.int .i64 s.size) (by rw [Lib.size_eq]; exact .int _ _) fun w => ?_
    unfold Builtin.len_
    simp only [ht, hc, Sem.run_bind, run_underlying hu, Result.andThen_ok]; rfl
  · cases hx with
    | lnil o ho =>
      refine .mk (.int .i64 0) (.int _ _) fun w => ?_
      unfold Builtin.len_
      simp only [ht, hc, Sem.run_bind, run_underlying hu, Result.andThen_ok]; rfl
    | lst o xs b off cap sz c h2 h3 h4 h5 h6 h7 =>
      refine .mk _ (.int _ _) fun w => ?_
      unfold Builtin.len_
      simp only [ht, hc, Sem.run_bind, run_underlying hu, Result.andThen_ok]; rfl
  · cases hx with
    | sl id off len cap b off' cap' h1 h0 h2 h3 =>
      refine .mk _ (.int _ _) fun w => ?_
      unfold Builtin.len_
      simp only [ht, hc, Sem.run_bind, run_underlying hu, Result.andThen_ok]; rfl
  · refine .mk _ (.int _ _) fun w => ?_
    unfold Builtin.len_
    simp only [ht, hc, Sem.run_bind, run_underlying hu, Result.andThen_ok]; rfl

theorem capV_ok {t ty : TypeId} {x : V} {cx : Value} {v : V} {ts : Array TypeId} {cs : Array Value} (ht : ts[0]? = some t) (hc : cs[0]? = some cx) (hx : VR g x cx) (h : capV P t x = some v) :
    PureOk P g v (Builtin.cap_ ts ty cs) := by
  unfold capV at h
  split at h <;> rename_i hu <;> simp only [Option.some.injEq, reduceCtorEq] at h <;> subst h
  · cases hx with
    | lnil o ho =>
      refine .mk (.int .i64 0) (.int _ _) fun w => ?_
      unfold Builtin.cap_
      simp only [ht, hc, Sem.run_bind, run_underlying hu, Result.andThen_ok]; rfl
    | lst o xs b off cap sz c h2 h3 h4 h5 h6 h7 =>
      have := h3 rfl
      subst this
      refine .mk _ (.int _ _) fun w => ?_
      unfold Builtin.cap_
      simp only [ht, hc, Sem.run_bind, run_underlying hu, Result.andThen_ok]; rfl
  · refine .mk _ (.int _ _) fun w => ?_
    unfold Builtin.cap_
    simp only [ht, hc, Sem.run_bind, run_underlying hu, Result.andThen_ok]; rfl

theorem minV_ok : ∀ {xs : List V} {x : V} {cs : List Value} {c : Value} {v : V}, VR g x c → VRs g xs cs.toArray → minV x xs = some v →
    ∃ d, VR g v d ∧ ∀ w, (cs.foldlM Builtin.min2 c).run P w = .ok d w
  | [], x, cs, c, v, hx, hs, h => by
    have : cs = [] := by have := hs.1; simp at this; exact List.eq_nil_of_length_eq_zero this.symm
    subst this
    simp only [minV, Option.some.injEq] at h
    subst h
    exact ⟨c, hx, fun w => rfl⟩
  | y :: ys, x, [], c, v, hx, hs, h => by have := hs.1; simp at this
  | y :: ys, x, d :: ds, c, v, hx, hs, h => by
    have h0 : VR g y d := hs.2 0 y d (by simp) (by simp)
    have hr : VRs g ys ds.toArray := ⟨by have := hs.1; simpa using this, fun i a b ha hb => hs.2 (i + 1) a b (by simpa using ha) (by simpa using hb)⟩
    unfold minV at h
    split at h
    · rename_i heq; cases heq
    · rename_i k a k' b r heq
      cases heq
      cases hx; cases h0
      obtain ⟨e, he, hrun⟩ := minV_ok (.int _ _) hr h
      refine ⟨e, he, fun w => ?_⟩
      rw [List.foldlM_cons, Sem.run_bind]
      simp only [Builtin.min2, Sem.run_pure, Result.andThen_ok]
      exact hrun w
    · simp at h

theorem maxV_ok : ∀ {xs : List V} {x : V} {cs : List Value} {c : Value} {v : V}, VR g x c → VRs g xs cs.toArray → maxV x xs = some v →
    ∃ d, VR g v d ∧ ∀ w, (cs.foldlM Builtin.max2 c).run P w = .ok d w
  | [], x, cs, c, v, hx, hs, h => by
    have : cs = [] := by have := hs.1; simp at this; exact List.eq_nil_of_length_eq_zero this.symm
    subst this
    simp only [maxV, Option.some.injEq] at h
    subst h
    exact ⟨c, hx, fun w => rfl⟩
  | y :: ys, x, [], c, v, hx, hs, h => by have := hs.1; simp at this
  | y :: ys, x, d :: ds, c, v, hx, hs, h => by
    have h0 : VR g y d := hs.2 0 y d (by simp) (by simp)
    have hr : VRs g ys ds.toArray := ⟨by have := hs.1; simpa using this, fun i a b ha hb => hs.2 (i + 1) a b (by simpa using ha) (by simpa using hb)⟩
    unfold maxV at h
    split at h
    · rename_i heq; cases heq
    · rename_i k a k' b r heq
      cases heq
      cases hx; cases h0
      obtain ⟨e, he, hrun⟩ := maxV_ok (.int _ _) hr h
      refine ⟨e, he, fun w => ?_⟩
      rw [List.foldlM_cons, Sem.run_bind]
      simp only [Builtin.max2, Sem.run_pure, Result.andThen_ok]
      exact hrun w
    · simp at h

theorem VRs.map {ρa : Operand → V} {ρc : Operand → Value} (hρ : ∀ x, VR g (ρa x) (ρc x)) (l : Array Operand) : VRs g (l.toList.map ρa) (l.map ρc) := by
  refine ⟨by simp, fun i x y hx hy => ?_⟩
  simp only [List.getElem?_map, Array.getElem?_toList, Option.map_eq_some_iff, Array.getElem?_map] at hx hy
  obtain ⟨a, ha, rfl⟩ := hx
  obtain ⟨b, hb, rfl⟩ := hy
  rw [ha] at hb; cases hb
  exact hρ a

/-- What 'v (s)' of the dispatch does. -/
theorem PureOk.value {v : V} {x : Sem Value} (h : PureOk P g v x) : ∃ c, VR g v c ∧ ∀ w, Imm g w → (do pure (.value (← x)) : Sem Next).run P w = .ok (.value c) w := by
  obtain ⟨c, hc, hr⟩ := h
  exact ⟨c, hc, fun w hw => by rw [Sem.run_bind, hr w hw]; rfl⟩

theorem builtinV_ok {b : Builtin} {ts : Array TypeId} {ty : TypeId} {consts : Array Bool} {xs : List V} {cs : Array Value} {v : V} (hxs : VRs g xs cs) (h : builtinV P b ts xs = some v) :
    ∃ c, VR g v c ∧ ∀ w, Imm g w → (builtin b ts ty consts cs).run P w = .ok (.value c) w := by
  have hcs : ∀ (x : V) (r : List V), xs = x :: r → ∃ c ds, cs.toList = c :: ds ∧ VR g x c ∧ VRs g r ds.toArray ∧ cs[0]? = some c := by
    intro x r e
    subst e
    cases hc : cs.toList with
    | nil => have := hxs.1; simp only [List.length_cons] at this; rw [← Array.length_toList, hc] at this; simp at this
    | cons c ds =>
      have hcc : cs = (c :: ds).toArray := by rw [← hc]
      subst hcc
      refine ⟨c, ds, rfl, hxs.2 0 x c rfl (by simp), ⟨by have := hxs.1; simpa using this, fun i a b ha hb => hxs.2 (i + 1) a b (by simpa using ha) (by simpa using hb)⟩, by simp⟩
  unfold builtinV at h
  split at h
  · rename_i x
    obtain ⟨c, ds, _, hx, _, h0⟩ := hcs x [] rfl
    split at h
    · rename_i t ht
      obtain ⟨c', hc', hr⟩ := (lenV_ok (ty := ty) ht h0 hx h).value
      exact ⟨c', hc', fun w hw => by unfold builtin; exact hr w hw⟩
    · simp at h
  · rename_i x
    obtain ⟨c, ds, _, hx, _, h0⟩ := hcs x [] rfl
    split at h
    · rename_i t ht
      obtain ⟨c', hc', hr⟩ := (capV_ok (ty := ty) ht h0 hx h).value
      exact ⟨c', hc', fun w hw => by unfold builtin; exact hr w hw⟩
    · simp at h
  · rename_i x r
    obtain ⟨c, ds, hl, hx, hr, h0⟩ := hcs x r rfl
    obtain ⟨d, hd, hrun⟩ := minV_ok (P := P) hx hr h
    refine ⟨d, hd, fun w _ => ?_⟩
    unfold builtin
    simp only [Builtin.min_, hl, Sem.run_bind, hrun w]; rfl
  · rename_i x r
    obtain ⟨c, ds, hl, hx, hr, h0⟩ := hcs x r rfl
    obtain ⟨d, hd, hrun⟩ := maxV_ok (P := P) hx hr h
    refine ⟨d, hd, fun w _ => ?_⟩
    unfold builtin
    simp only [Builtin.max_, hl, Sem.run_bind, hrun w]; rfl
  · simp at h

theorem bcond_ok {c : Bool} {a b : V} {ca cb : Value} (ha : VR g a ca) (hb : VR g b cb) : VR g (bcond c a b) (if c then ca else cb) := by
  unfold bcond
  split
  · cases ha; cases hb; cases c <;> exact .bool _
  · cases c <;> simp_all

theorem evPure_ok {ρa : Operand → V} {ρc : Operand → Value} (hρ : ∀ x, VR g (ρa x) (ρc x)) {o : Oper} {v : V} (h : evPure P ρa o.op = some v) :
    ∃ c, VR g v c ∧ ∀ w, Imm g w → (execOp ρc o).run P w = .ok (.value c) w := by
  obtain ⟨dst, op, type, pos, after, guard⟩ := o
  unfold evPure at h
  unfold execOp
  simp only at h
  split at h <;> simp only
  · simp only [Option.some.injEq] at h; subst h
    exact ⟨_, hρ _, fun w _ => rfl⟩
  · simp only [Option.some.injEq] at h; subst h
    exact ⟨_, hρ _, fun w _ => rfl⟩
  · rename_i c a b
    split at h
    · rename_i cb hc
      simp only [Option.some.injEq] at h; subst h
      have hcc := hρ c
      rw [hc] at hcc
      generalize hcv : ρc c = cv at hcc
      cases hcc
      exact ⟨_, bcond_ok (hρ a) (hρ b), fun w _ => by simp only [asBool, Sem.run_bind, Sem.run_pure, Result.andThen_ok]⟩
    · simp at h
  · rename_i t parts
    exact (buildV_ok (P := P) (qs := parts.map fun p => (p.1, ρc p.2)) (by rw [Array.toList_map]; exact PRs.map hρ _) h).value
  · exact (binV_ok (hρ _) (hρ _) h _ _).value
  · exact (unV_ok (hρ _) h).value
  · exact (convV_ok (hρ _) h).value
  · rename_i t x
    split at h
    · simp at h
    · simp at h
    · rename_i d hd hu
      simp only [Option.some.injEq] at h; subst h
      refine ⟨.iface t (ρc x), .iface _ _ _ (hρ x), fun w _ => ?_⟩
      unfold Instr.makeInterface
      simp only [Sem.run_bind, run_underlying hu, Result.andThen_ok]
      cases d <;> first | rfl | (exfalso; exact hd _ rfl)
  · simp only [Option.some.injEq] at h; subst h
    rename_i f first captured
    refine ⟨.func f (first.map ρc) (captured.map ρc), ?_, fun w _ => rfl⟩
    exact .fn _ _ _ _ _ (VRs.map hρ first).1 (VRs.map hρ captured).1 (VRs.map hρ first).2 (VRs.map hρ captured).2
  · exact (sliceV_ok (hρ _) (OR.map hρ _) (OR.map hρ _) (OR.map hρ _) h).value
  · exact (fieldAddrV_ok (hρ _) h).value
  · exact (fieldV_ok (hρ _) h).value
  · exact (indexAddrV_ok (hρ _) (hρ _) h).value
  · exact (indexV_ok (hρ _) (hρ _) h).value
  · rename_i x i
    split at h
    · rename_i vs hx
      have hxx := hρ x
      rw [hx] at hxx
      generalize hcv : ρc x = cv at hxx
      cases hxx with
      | tup cs cs' h1 h2 =>
        have hlt : i < cs'.size := by
          rw [← h1]
          rcases Nat.lt_or_ge i vs.length with h' | h'
          · exact h'
          · simp [List.getElem?_eq_none h'] at h
        refine ⟨cs'[i], h2 i _ _ h (by simp [hlt]), fun w _ => ?_⟩
        unfold Instr.extract
        simp [hlt]
    · simp at h
  · rename_i x
    have hxx := hρ x
    unfold nilCheckV at h
    split at h <;> rename_i hx <;> simp only [Option.some.injEq, reduceCtorEq] at h <;> subst h <;> rw [hx] at hxx <;> generalize hcv : ρc x = cv at hxx <;>
      (have h2 := hxx; cases hxx; exact ⟨_, h2, fun w _ => rfl⟩)
  · rename_i c
    split at h
    · rename_i b hc
      obtain ⟨d, hd, hr⟩ := builtinV_ok (ty := type) (consts := c.args.map fun | .const _ => true | _ => false) (VRs.map hρ c.args) h
      refine ⟨d, hd, fun w hw => ?_⟩
      simp only [Sem.run_bind, resolve, hc, Sem.run_pure, Result.andThen_ok, invoke]
      exact hr w hw
    · simp at h
  · simp at h

end
end Go.Ev
