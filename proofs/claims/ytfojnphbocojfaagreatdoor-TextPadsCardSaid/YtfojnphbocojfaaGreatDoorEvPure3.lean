/- The pure operations of the evaluator are the model's, third part. -/
import Derived.Test.YtfojnphbocojfaaGreatDoorEvPure2
set_option linter.all false
set_option linter.unusedVariables false
set_option linter.unusedSimpArgs false
namespace Go.Ev
open Go Go.RowKit
variable [Glob]

section
variable {P : Program} {g : Gh}

theorem add_none (b off n : Nat) : (⟨b, off, none⟩ : Addr).add n = ⟨b, off + n, none⟩ := by
  unfold Addr.add; split
  · rename_i e; simp [e]
  · rfl

theorem boundV_ok {x : V} {cx : Value} {y k : Nat} (hx : VR g x cx) (h : boundV x y = some k) (code : BoundsCode) (y' : Nat) (hy : y ≤ y') (w : World) :
    (Instr.sliceBound cx y' code).run P w = .ok k w ∧ k ≤ y := by
  unfold boundV at h
  split at h
  · cases hx
    split at h
    · rename_i kd i hc
      simp only [Option.some.injEq] at h
      subst h
      refine ⟨?_, by omega⟩
      simp only [Instr.sliceBound, asIntOf, Sem.run_bind, Sem.run_pure, Result.andThen_ok]
      rw [if_pos (by omega)]
      rfl
    · simp at h
  · simp at h

/-- What an operand of a slice expression that may be missing is. -/
def OR (g : Gh) (a : Option V) (c : Option Value) : Prop :=
  match a, c with
  | none, none => True
  | some x, some y => VR g x y
  | _, _ => False

theorem OR.map {ρa : Operand → V} {ρc : Operand → Value} (hρ : ∀ x, VR g (ρa x) (ρc x)) (o : Option Operand) : OR g (o.map ρa) (o.map ρc) := by
  cases o with
  | none => trivial
  | some x => exact hρ x

theorem boundsV_ok {len cap cap' l h m : Nat} {lo hi mx : Option V} {clo chi cmx : Option Value} (hlo : OR g lo clo) (hhi : OR g hi chi) (hmx : OR g mx cmx)
    (hc : cap ≤ cap') (hb : boundsV len cap lo hi mx = some (l, h, m)) (isSlice : Bool) (hlen : len ≤ cap) (w : World) :
    ∃ m', (Instr.sliceBounds isSlice len cap' clo chi cmx).run P w = .ok (l, h, m') w ∧ l ≤ h ∧ h ≤ m ∧ m ≤ m' ∧ (mx.isSome → m' = m) ∧ (mx = none → m = cap ∧ m' = cap') := by
  unfold boundsV at hb
  split at hb
  · simp at hb
  · rename_i m0 hm
    split at hb
    · simp at hb
    · rename_i h0 hh
      split at hb
      · simp at hb
      · rename_i l0 hl
        simp only [Option.some.injEq, Prod.mk.injEq] at hb
        obtain ⟨rfl, rfl, rfl⟩ := hb
        -- max
        have hmax : ∃ m', (match cmx with
            | some v => Instr.sliceBound v cap' (if isSlice then .slice3Acap else .slice3Alen)
            | none => (pure cap' : Sem Nat)).run P w = .ok m' w ∧ m0 ≤ m' ∧ (mx.isSome → m' = m0) ∧ (mx = none → m0 = cap ∧ m' = cap') := by
          cases mx with
          | none =>
            cases cmx with
            | none =>
              simp only [Option.some.injEq] at hm
              subst hm
              exact ⟨cap', rfl, hc, fun h => by simp at h, fun _ => ⟨rfl, rfl⟩⟩
            | some v => exact hmx.elim
          | some x =>
            cases cmx with
            | none => exact hmx.elim
            | some v =>
              have := boundV_ok (P := P) hmx hm (if isSlice then .slice3Acap else .slice3Alen) cap' hc w
              exact ⟨m0, this.1, Nat.le_refl _, fun _ => rfl, fun h => by simp at h⟩
        obtain ⟨m', hmr, hmm, hms, hmn⟩ := hmax
        have hhigh : (match chi, cmx with
            | some v, some _ => Instr.sliceBound v m' .slice3B
            | some v, none => Instr.sliceBound v m' (if isSlice then .sliceAcap else .sliceAlen)
            | none, none => (pure len : Sem Nat)
            | none, some _ => stuck "Slice: max without high").run P w = .ok h0 w ∧ h0 ≤ m0 := by
          cases hi with
          | some x =>
            cases chi with
            | none => exact hhi.elim
            | some v =>
              cases cmx with
              | none => have := boundV_ok (P := P) hhi hh (if isSlice then .sliceAcap else .sliceAlen) m' hmm w; exact ⟨this.1, this.2⟩
              | some u => have := boundV_ok (P := P) hhi hh .slice3B m' hmm w; exact ⟨this.1, this.2⟩
          | none =>
            cases chi with
            | some v => exact hhi.elim
            | none =>
              cases mx with
              | none =>
                cases cmx with
                | none =>
                  simp only [Option.some.injEq] at hh
                  subst hh
                  have := (hmn rfl).1
                  exact ⟨rfl, by omega⟩
                | some u => exact hmx.elim
              | some y => simp at hh
        have hlow : (match clo with
            | some v => Instr.sliceBound v h0 (if cmx.isSome then .slice3C else .sliceB)
            | none => (pure 0 : Sem Nat)).run P w = .ok l0 w ∧ l0 ≤ h0 := by
          cases lo with
          | some x =>
            cases clo with
            | none => exact hlo.elim
            | some v => have := boundV_ok (P := P) hlo hl (if cmx.isSome then .slice3C else .sliceB) h0 (Nat.le_refl _) w; exact ⟨this.1, this.2⟩
          | none =>
            cases clo with
            | some v => exact hlo.elim
            | none =>
              simp only [Option.some.injEq] at hl
              subst hl
              exact ⟨rfl, Nat.zero_le _⟩
        refine ⟨m', ?_, hlow.2, hhigh.2, hmm, hms, hmn⟩
        unfold Instr.sliceBounds
        have hh1 := hhigh.1
        have hl1 := hlow.1
        clear hhigh hlow hmn hms hl hh hm
        cases cmx <;> cases chi <;> cases clo <;> simp only [Sem.run_bind] at hmr hh1 hl1 ⊢ <;> (try rw [hmr]) <;> (try simp only [Result.andThen_ok]) <;>
          (try rw [hh1]) <;> (try simp only [Result.andThen_ok]) <;> (try rw [hl1]) <;> (try simp only [Result.andThen_ok]) <;> rfl

/-- The elements of a type have its number of cells. -/
theorem sizedB_spec {e : TypeId} {x : V} {a : Bool} {n : Nat} (hk : kindT P e = some (a, n)) (h : sizedB P e x = true) : x.cells.length = n ∧ x.isAgg = a ∧ goodB x = true := by
  unfold sizedB at h
  rw [hk] at h
  simp only [Bool.and_eq_true, beq_iff_eq] at h
  exact ⟨h.1.1, h.1.2, h.2⟩

theorem sizedB_kind {e : TypeId} {x : V} (h : sizedB P e x = true) : kindT P e = some (x.isAgg, x.cells.length) := by
  unfold sizedB at h
  split at h
  · rename_i a n hk
    simp only [Bool.and_eq_true, beq_iff_eq] at h
    rw [hk, h.1.1, h.1.2]
  · simp at h

theorem boundV_le {x : V} {y k : Nat} (h : boundV x y = some k) : k ≤ y := by
  unfold boundV at h
  split at h <;> (try split at h) <;> simp at h <;> omega

theorem boundsV_le {len cap l h m : Nat} {lo hi mx : Option V} (hb : boundsV len cap lo hi mx = some (l, h, m)) : m ≤ cap := by
  unfold boundsV at hb
  split at hb
  · simp at hb
  · rename_i m0 hm0
    have : m0 ≤ cap := by
      cases mx with
      | none => simp at hm0; omega
      | some y => exact boundV_le hm0
    split at hb <;> (try simp at hb)
    split at hb <;> (try simp at hb)
    omega

theorem sub_get {xs : List V} {l n i : Nat} {x : V} (h : ((xs.drop l).take n)[i]? = some x) : xs[l + i]? = some x ∧ i < n := by
  rw [List.getElem?_take] at h
  split at h
  · rw [List.getElem?_drop] at h; exact ⟨h, by assumption⟩
  · simp at h

theorem sliceV_ok {t : TypeId} {x : V} {cx : Value} {lo hi mx : Option V} {clo chi cmx : Option Value} {v : V} (hx : VR g x cx)
    (hlo : OR g lo clo) (hhi : OR g hi chi) (hmx : OR g mx cmx) (hs : sliceV P t x lo hi mx = some v) : PureOk P g v (Instr.sliceAt t cx clo chi cmx) := by
  unfold sliceV at hs
  split at hs
  · -- a string
    rename_i b hu
    cases hx
    rename_i s
    split at hs
    · simp at hs
    · rename_i hm
      have hmn : mx = none := by cases mx <;> simp_all
      subst hmn
      have hcn : cmx = none := by cases cmx with | none => rfl | some u => exact hmx.elim
      subst hcn
      split at hs
      · rename_i l h m hb
        simp only [Option.some.injEq] at hs
        subst hs
        refine .mk (.string (s.extract l h)) (str_mk _ _ (Lib.extract_data s l h)) fun w => ?_
        obtain ⟨m', hr, hlh, hhm, _⟩ := boundsV_ok (P := P) hlo hhi (mx := none) (cmx := none) trivial (Nat.le_refl _) hb false (Nat.le_refl _) w
        unfold Instr.sliceAt
        simp only [Sem.run_bind, run_underlying hu, Result.andThen_ok]
        unfold Instr.slice
        simp only [Sem.run_bind, run_underlying hu, Result.andThen_ok]
        rw [← Lib.size_eq] at hr
        simp only [Option.isSome_none, Bool.false_eq_true, if_false]
        simp only [Sem.run_bind, hr, Result.andThen_ok]
        rfl
      · simp at hs
  · -- a list
    rename_i e o xs hu
    split at hs
    · simp at hs
    · rename_i hall
      have hall' : ∀ x ∈ xs, sizedB P e x = true := by simpa using hall
      split at hs
      · rename_i kk l h m hk hb
        obtain ⟨ag, n⟩ := kk
        have hrun : ∀ (a : Option Addr) (len cap m' : Nat) (w : World), (Instr.sliceBounds true len cap clo chi cmx).run P w = .ok (l, h, m') w →
            (Instr.sliceAt t (.slice a len cap) clo chi cmx).run P w = .ok (.slice (if m' = l then a else a.map (·.add (l * n))) (h - l) (m' - l)) w := by
          intro a len cap m' w hr
          unfold Instr.sliceAt
          simp only [Sem.run_bind, run_underlying hu, Result.andThen_ok]
          unfold Instr.slice
          simp only [Sem.run_bind, run_underlying hu, Result.andThen_ok, hr, (kindT_run hk w).2]
          rfl
        split at hs
        · rename_i hc
          obtain ⟨hmx0, rfl, rfl⟩ := hc
          simp only [Option.some.injEq] at hs
          subst hs
          cases hx with
          | lnil o ho =>
            refine .mk (.slice none 0 0) (.lnil o ho) fun w => ?_
            obtain ⟨m', hr, hlh, hhm, hmm, hms, hmn⟩ := boundsV_ok (P := P) hlo hhi hmx (Nat.le_refl _) hb true (Nat.le_refl _) w
            rw [hrun none 0 0 m' w hr]
            have := (hmn (by cases mx <;> simp_all)).2
            simp at this
            subst this; simp
          | lst o xs b off cap sz c h2 h3 h4 h5 h6 h7 =>
            refine .mk _ (.lst o xs b off cap sz c h2 h3 h4 h5 h6 h7) fun w => ?_
            obtain ⟨m', hr, hlh, hhm, hmm, hms, hmn⟩ := boundsV_ok (P := P) hlo hhi hmx h2 hb true (Nat.le_refl _) w
            rw [hrun _ _ cap m' w hr]
            have := (hmn (by cases mx <;> simp_all)).2
            subst this
            simp [add_none]
        · rename_i hc
          simp only [Option.some.injEq] at hs
          subst hs
          cases hx with
          | lnil o ho =>
            refine .mk (.slice none 0 0) ?_ fun w => ?_
            · simp only [List.drop_nil, List.take_nil]
              refine .lnil _ fun s => ?_
              unfold subOwn
              repeat' split
              all_goals simp
            · obtain ⟨m', hr, hlh, hhm, hmm, hms, hmn⟩ := boundsV_ok (P := P) hlo hhi hmx (Nat.le_refl _) hb true (Nat.le_refl _) w
              rw [hrun none 0 0 m' w hr]
              have h0 : m' = 0 := by
                cases mx with
                | none => exact (hmn rfl).2
                | some y =>
                  have := hms rfl
                  have := boundsV_le hb
                  simp at this
                  omega
              subst h0
              have : l = 0 := by omega
              have : h = 0 := by omega
              subst this
              simp [*]
          | lst o xs b off cap sz c h2 h3 h4 h5 h6 h7 =>
            have hall : ∀ w, ∃ m', (Instr.sliceBounds true xs.length cap clo chi cmx).run P w = .ok (l, h, m') w ∧ l ≤ h ∧ h ≤ m ∧ m ≤ m' ∧ (mx.isSome → m' = m) ∧ (mx = none → m = xs.length ∧ m' = cap) :=
              fun w => boundsV_ok (P := P) hlo hhi hmx h2 hb true (Nat.le_refl _) w
            have hml : m ≤ xs.length := boundsV_le hb
            obtain ⟨m', _, hlh, hhm, hmm, hms, hmn⟩ := hall default
            refine .mk (.slice (some ⟨b, if m' = l then off else off + l * n, none⟩) (h - l) (m' - l)) ?_ fun w => ?_
            · have hlen : ((xs.drop l).take (h - l)).length = h - l := by simp; omega
              have hsz : ∀ (i : Nat) (x : V), ((xs.drop l).take (h - l))[i]? = some x → sz = n := by
                intro i x hx
                obtain ⟨hx, _⟩ := sub_get hx
                rw [← h5 _ _ hx]
                exact (sizedB_spec hk (hall' x (List.mem_of_getElem? hx))).1
              have hml' : ∀ (i : Nat) (x : V), ((xs.drop l).take (h - l))[i]? = some x → ¬ m' = l := by
                intro i x hx
                have := (sub_get hx).2
                omega
              have := VR.lst (g := g) (subOwn mx.isSome m h xs.length o) ((xs.drop l).take (h - l)) b (if m' = l then off else off + l * n) (m' - l) sz (fun i j => c (l + i) j)
                (by rw [hlen]; omega) ?_ ?_ (fun i x hx => h5 _ _ (sub_get hx).1) ?_ (fun i x j y hx hy => h7 _ _ _ _ (sub_get hx).1 hy)
              · rw [hlen] at this; exact this
              · intro he
                rw [hlen]
                unfold subOwn at he
                split at he
                · rename_i hsome
                  split at he
                  · rename_i hmh; have := hms hsome; omega
                  · simp at he
                · rename_i hnone
                  have hmn' := hmn (by cases mx <;> simp_all)
                  split at he
                  · rename_i hhl
                    split at he
                    · rename_i ho; have := h3 ho; omega
                    · simp at he
                  · simp at he
              · intro s he
                unfold subOwn at he
                repeat' split at he
                all_goals simp at he
              · intro i x j y hx hy
                rw [if_neg (hml' i x hx), ← h6 _ _ j y (sub_get hx).1 hy, hsz i x hx]
                congr 1
                rw [Nat.add_mul]; omega
            · obtain ⟨m'', hr, _, _, _, hms', hmn'⟩ := hall w
              have : m'' = m' := by
                cases mx with
                | none => rw [(hmn rfl).2, (hmn' rfl).2]
                | some y => rw [hms rfl, hms' rfl]
              subst this
              rw [hrun _ _ cap m'' w hr]
              split <;> simp [add_none]
      · simp at hs
  · -- a row
    rename_i e id off len cap hu
    split at hs
    · rename_i a n l h m hk hb
      simp only [Option.some.injEq] at hs
      subst hs
      cases hx with
      | sl id off len cap b off' cap' h1 hlc h2 h3 =>
        have hall : ∀ w, ∃ m', (Instr.sliceBounds true len cap' clo chi cmx).run P w = .ok (l, h, m') w ∧ l ≤ h ∧ h ≤ m ∧ m ≤ m' ∧ (mx.isSome → m' = m) ∧ (mx = none → m = cap ∧ m' = cap') :=
          fun w => boundsV_ok (P := P) hlo hhi hmx h2 hb true hlc w
        obtain ⟨m', _, hlh, hhm, hmm, hms, hmn⟩ := hall default
        refine .mk (.slice (some ⟨b, if m' = l then off' else off' + l * n, none⟩) (h - l) (m' - l)) ?_ fun w => ?_
        · have := boundsV_le hb
          refine .sl _ _ _ _ _ _ _ h1 (by omega) (by omega) fun hpos => ?_
          rw [if_neg (by omega), h3 (by omega)]
        · obtain ⟨m'', hr, _, _, _, hms', hmn'⟩ := hall w
          have : m'' = m' := by
            cases mx with
            | none => rw [(hmn rfl).2, (hmn' rfl).2]
            | some y => rw [hms rfl, hms' rfl]
          subst this
          unfold Instr.sliceAt
          simp only [Sem.run_bind, run_underlying hu, Result.andThen_ok]
          unfold Instr.slice
          simp only [Sem.run_bind, run_underlying hu, Result.andThen_ok, hr, (kindT_run hk w).2]
          split <;> simp [add_none]
    · simp at hs
  · rename_i n e id off hu
    split at hs
    · rename_i a z l h m hk hb
      simp only [Option.some.injEq] at hs
      subst hs
      cases hx with
      | ptr id off b h1 =>
        have hall : ∀ w, ∃ m', (Instr.sliceBounds false n n clo chi cmx).run P w = .ok (l, h, m') w ∧ l ≤ h ∧ h ≤ m ∧ m ≤ m' ∧ (mx.isSome → m' = m) ∧ (mx = none → m = n ∧ m' = n) :=
          fun w => boundsV_ok (P := P) hlo hhi hmx (Nat.le_refl _) hb false (Nat.le_refl _) w
        have hmm' : ∀ m', (mx.isSome → m' = m) → (mx = none → m = n ∧ m' = n) → m' = m := by
          intro m' h1 h2
          cases mx with
          | none => rw [(h2 rfl).1, (h2 rfl).2]
          | some y => exact h1 rfl
        refine .mk (.slice (some ⟨b, if m = l then off else off + l * z, none⟩) (h - l) (m - l)) ?_ fun w => ?_
        · obtain ⟨m', _, hlh, hhm, hmm, hms, hmn⟩ := hall default
          refine .sl _ _ _ _ _ _ _ h1 (by omega) (by omega) fun hpos => ?_
          rw [if_neg (by omega)]
        · obtain ⟨m', hr, _, _, _, hms', hmn'⟩ := hall w
          have := hmm' m' hms' hmn'
          subst this
          unfold Instr.sliceAt
          simp only [Sem.run_bind, run_underlying hu, Result.andThen_ok, Instr.sureAddr, Sem.run_pure, hr, (kindT_run hk w).2]
          split <;> simp [add_none]
    · simp at hs
  · simp at hs

end
end Go.Ev
