/- Regions, code and functions: the evaluator is sound. -/
import Derived.Test.YtfojnphbocojfaaGreatDoorEvAny
import Derived.LoopNIn
import Derived.RangeFuncRecord
set_option linter.all false
set_option linter.unusedVariables false
set_option linter.unusedSimpArgs false
namespace Go.Ev
open Go Go.RowKit
variable [Glob]

section
variable {base : Nat} {g : Gh} {s : St} {w : World} {a : Act} {X : Ctx}

theorem clear_rel {env : Env} {tmps : Array Value} (h : VRs g env tmps) : ∀ (l : List Nat) (env : Env), VRs g env tmps → VRs g (clear env l) tmps
  | [], env, h => h
  | d :: r, env, h => by
    refine clear_rel h r _ ⟨by simpa using h.1, fun i x y hx hy => ?_⟩
    rw [List.getElem?_set] at hx
    by_cases e : d = i
    · subst e
      simp only [if_true] at hx
      split at hx
      · simp only [Option.some.injEq] at hx; subst hx; exact .any _
      · simp at hx
    · rw [if_neg e] at hx
      exact h.2 i x y hx hy

theorem quietV_eq (hX : CtxOk X) {region place : Nat} {env : Env} {op : Op} {v : V} {s : St} (h : quietV X env op = some v) : evOp0 X region place env op s = .ok v s := by
  have hp : ∀ {op v}, evPure X.P (evalO env) op = some v → evOp0 X region place env op s = .ok v s := by
    intro op v h
    unfold evOp0
    simp only [h]
  unfold quietV at h
  split at h
  · split at h
    · split at h
      · exact hp h
      · simp at h
    · rename_i c _
      split at h
      · rename_i f hc
        split at h
        · simp at h
        · rename_i hsh
          split at h
          · rename_i q hq
            have hext := hX.quiet f q hq
            unfold evOp0
            have hn : evPure X.P (evalO env) (.call c) = none := by simp [evPure, hc]
            simp only [hn, hc]
            unfold callFn
            simp only [evalO, List.nil_append, List.append_nil]
            unfold callV headV
            simp only [hsh, Bool.false_eq_true, if_false, hext, h, Out.ofOption]
          · simp at h
      · exact hp h
    · exact hp h
  · simp at h

theorem mem_dsts {l : List Oper} {o : Oper} {d : Nat} (ho : o ∈ l) (hd : o.dst = some d) : d ∈ dstsOf l := by
  induction l with
  | nil => simp at ho
  | cons x l ih =>
    simp only [dstsOf]
    rcases List.mem_cons.1 ho with rfl | ho
    · rw [hd]; simp
    · split
      · exact List.mem_cons_of_mem _ (ih ho)
      · exact ih ho

theorem dsts_sub {l l' : List Oper} (h : ∀ o ∈ l', o ∈ l) {d : Nat} (hd : d ∈ dstsOf l') : d ∈ dstsOf l := by
  induction l' with
  | nil => simp [dstsOf] at hd
  | cons x l' ih =>
    simp only [dstsOf] at hd
    split at hd
    · rename_i d' hd'
      rcases List.mem_cons.1 hd with rfl | hd
      · exact mem_dsts (h x (by simp)) hd'
      · exact ih (fun o ho => h o (by simp [ho])) hd
    · exact ih (fun o ho => h o (by simp [ho])) hd

theorem putE_other {env : Env} {dst : Option Tmp} {v : V} {i : Nat} (h : ∀ d, dst = some d → i ≠ d) : (putE env dst v)[i]? = env[i]? := by
  cases dst with
  | none => rfl
  | some d => simp only [putE]; rw [List.getElem?_set, if_neg (fun e => h d rfl e.symm)]

theorem blockOf_dst {d : Nat} : ∀ {l : List Oper} {k p : Nat}, blockOf d l = some (k, p) → p ∈ dstsOf (l.take k)
  | [], k, p, h => by simp [blockOf] at h
  | o :: r, k, p, h => by
    simp only [blockOf] at h
    split at h
    · simp only [Option.map_eq_some_iff] at h
      obtain ⟨q, hq, e⟩ := h
      simp only [Prod.mk.injEq] at e
      obtain ⟨rfl, rfl⟩ := e
      simp [dstsOf, hq]
    · simp only [Option.map_eq_some_iff] at h
      obtain ⟨q, hq, e⟩ := h
      simp only [Prod.mk.injEq] at e
      obtain ⟨rfl, rfl⟩ := e
      have := blockOf_dst (k := q.1) (p := q.2) hq
      simp only [List.take_succ_cons, dstsOf]
      split
      · exact List.mem_cons_of_mem _ this
      · exact this

theorem clear_other : ∀ (dead : List Nat) (env : Env) (k : Nat), k ∉ dead → (clear env dead)[k]? = env[k]?
  | [], env, k, _ => rfl
  | d :: r, env, k, h => by
    simp only [List.mem_cons, not_or] at h
    simp only [clear]
    rw [clear_other r _ k h.2, List.getElem?_set, if_neg (fun e => h.1 e.symm)]

theorem clear_length : ∀ (dead : List Nat) (env : Env), (clear env dead).length = env.length
  | [], env => rfl
  | d :: r, env => by simp only [clear]; rw [clear_length r]; simp

theorem evQ_frame {ops : Array Oper} : ∀ (n : Nat) (l : List Oper) (known : List Nat) (env env' : Env), evQ X ops n l known env = some env' → env'.length = env.length ∧ ∀ i, i ∉ dstsOf l → env'[i]? = env[i]?
  | 0, l, known, env, env', h => by simp [evQ] at h
  | n + 1, [], known, env, env', h => by simp only [evQ, Option.some.injEq] at h; subst h; exact ⟨rfl, fun _ _ => rfl⟩
  | n + 1, o :: rest, known, env, env', h => by
    have put : ∀ v, evQ X ops n rest known (putE env o.dst v) = some env' → env'.length = env.length ∧ ∀ i, i ∉ dstsOf (o :: rest) → env'[i]? = env[i]? := by
      intro v h
      obtain ⟨h1, h2⟩ := evQ_frame n rest known _ _ h
      refine ⟨by rw [h1]; cases o.dst <;> simp [putE], fun i hi => ?_⟩
      rw [h2 i (fun hm => hi (dsts_sub (fun o ho => by simp [ho]) hm)), putE_other]
      intro d hd e
      subst e
      exact hi (mem_dsts (by simp) hd)
    simp only [evQ] at h
    split at h
    · simp at h
    · split at h
      · split at h
        · split at h
          · exact put _ h
          · simp at h
        · exact put _ h
      · rename_i d b _
        split at h
        · simp at h
        · rename_i k p hk
          split at h
          · split at h
            · rename_i v hv
              obtain ⟨h1, h2⟩ := evQ_frame n _ known _ _ h
              refine ⟨by rw [h1]; simp [clear_length], fun i hi => ?_⟩
              have hi1 : i ∉ dstsOf ((o :: rest).take k) := fun hm => hi (dsts_sub (fun o ho => List.mem_of_mem_take ho) hm)
              rw [h2 i (fun hm => hi (dsts_sub (fun o ho => List.mem_of_mem_drop ho) hm)), List.getElem?_set, if_neg, clear_other _ _ _ hi1]
              rintro rfl
              exact hi1 (blockOf_dst hk)
            · simp at h
          · simp at h

/-- Where two ways are joined, what is known holds on the way that is gone. -/
theorem merge_rel {g g' : Gh} {env e : Env} {tmps tmps' : Array Value} {l : List Oper} {d p : Nat} {b : Bool} {v : V} (he : VRs g env tmps) (hd : env[d]? = some (.bool b))
    (hs : Sub g g') (hfr : e.length = env.length ∧ ∀ i, i ∉ dstsOf l → e[i]? = (env.set d (.bool b))[i]?) (hp : p ∈ dstsOf l)
    (hr : VRs g' e tmps') (hv : ∀ c, VR g' (e.getD p .any) c → VR g' v c) : VRs g' ((clear env (dstsOf l)).set p v) tmps' := by
  refine ⟨by simp only [List.length_set, clear_length]; rw [← hfr.1]; exact hr.1, fun i x y hx hy => ?_⟩
  rw [List.getElem?_set] at hx
  by_cases hip : p = i
  · subst hip
    simp only [if_true] at hx
    split at hx
    · simp only [Option.some.injEq] at hx
      subst hx
      have := hr.get p
      rw [Array.getD_eq_getD_getElem?, hy] at this
      exact hv y this
    · simp at hx
  · rw [if_neg hip] at hx
    by_cases hm : i ∈ dstsOf l
    · have : (clear env (dstsOf l))[i]? = some .any ∨ (clear env (dstsOf l))[i]? = none := by
        have key : ∀ (dead : List Nat) (env : Env), i ∈ dead → (clear env dead)[i]? = some .any ∨ (clear env dead)[i]? = none := by
          intro dead
          induction dead with
          | nil => intro env h; simp at h
          | cons q r ih =>
            intro env h
            by_cases hir : i ∈ r
            · exact ih _ hir
            · have : i = q := by
                rcases List.mem_cons.1 h with h | h
                · exact h
                · exact absurd h hir
              subst this
              simp only [clear]
              rw [clear_other r _ _ hir, List.getElem?_set]
              simp only [if_true]
              split
              · exact .inl rfl
              · exact .inr rfl
        exact key _ _ hm
      rcases this with h | h
      · rw [h] at hx; simp only [Option.some.injEq] at hx; subst hx; exact .any _
      · rw [h] at hx; simp at hx
    · rw [clear_other _ _ _ hm] at hx
      refine hr.2 i x y ?_ hy
      rw [hfr.2 i hm, List.getElem?_set]
      by_cases hdi : d = i
      · subst hdi
        rw [hd] at hx
        simp only [Option.some.injEq] at hx
        subst hx
        have : d < env.length := by
          rcases Nat.lt_or_ge d env.length with h | h
          · exact h
          · rw [List.getElem?_eq_none h] at hd; simp at hd
        simp [this]
      · rw [if_neg hdi]; exact hx

theorem mergeV_rel {g : Gh} {t : Bool} {a b v : V} (h : mergeV t a b = some v) : ∀ c, VR g (cond t a b) c → VR g v c := by
  unfold mergeV at h
  split at h
  · simp only [Option.some.injEq] at h; subst h; cases t <;> exact fun c h => h
  · split at h
    · rename_i e; subst e
      simp only [Option.some.injEq] at h; subst h; cases t <;> exact fun c h => h
    · simp at h
  · simp at h

theorem undecided_spec {env : Env} {ops : Array Oper} {known : List Nat} {o : Oper} {d : Nat} {b : Bool} (h : undecided env ops known o = some (d, b)) : env[d]? = some (.bool b) := by
  unfold undecided at h
  split at h
  · simp at h
  · split at h
    · split at h
      · simp at h
      · split at h
        · rename_i hb; simp only [Option.some.injEq, Prod.mk.injEq] at h; obtain ⟨rfl, rfl⟩ := h; exact hb
        · simp at h
    · simp at h

theorem set_same {g : Gh} {env : Env} {tmps : Array Value} {d : Nat} {b : Bool} (he : VRs g env tmps) (hd : env[d]? = some (.bool b)) : VRs g (env.set d (.bool b)) tmps := by
  refine ⟨by simpa using he.1, fun i x y hx hy => ?_⟩
  rw [List.getElem?_set] at hx
  by_cases e : d = i
  · subst e
    simp only [if_true] at hx
    split at hx
    · simp only [Option.some.injEq] at hx; subst hx; exact he.2 d _ _ hd hy
    · simp at hx
  · rw [if_neg e] at hx; exact he.2 i x y hx hy

theorem evQ_ok (hX : CtxOk X) {ops : Array Oper} {Q : Exit → Act → World → Prop} {ro : Option Nat} : ∀ (n : Nat) (l : List Oper) (known : List Nat) (env env' : Env), evQ X ops n l known env = some env' →
    ∀ (g : Gh) (w : World) (a : Act) (s : St) (rest : List Oper), WR base g s w → VRs g env a.tmps →
    (∀ g' w' a', Grow base g g' w w' → WR base g' s w' → VRs g' env' a'.tmps → a'.defers = a.defers → wpListIn (FR ro) 0 X.P ops Q rest a' w') → wpListIn (FR ro) 0 X.P ops Q (l ++ rest) a w
  | 0, l, known, env, env', h => by simp [evQ] at h
  | n + 1, [], known, env, env', h => fun g w a s rest hw he hn => by
    simp only [evQ, Option.some.injEq] at h; subst h
    exact hn g w a (.refl _ _ _) hw he rfl
  | n + 1, o :: l, known, env, env', h => fun g w a s rest hw he hn => by
    simp only [evQ] at h
    split at h
    · simp at h
    · rename_i t hwant
      have hW := wantedE_ok he hwant
      split at h
      · split at h
        · split at h
          · rename_i v hv
            show wpListIn (FR ro) 0 X.P ops Q (o :: (l ++ rest)) a w
            unfold wpListIn
            rw [if_pos hW]
            have h0 := evOp0_ok hX (region := 0) (place := 0) (o := o) hw he
            rw [quietV_eq hX hv] at h0
            refine h0 (fun v' s' => v' = v ∧ s' = s) (fun _ _ => False) _ Q ⟨rfl, rfl⟩ (fun v' s' g' w' c hK hg hw' hvr => ?_) (fun _ _ _ _ _ h => h.elim) ro
            obtain ⟨rfl, rfl⟩ := hK
            refine evQ_ok hX n l known _ _ h g' w' (a.put o.dst c) s' rest hw' (putE_rel (he.mono hg.sub) o.dst hvr) fun g'' w'' a'' hg' hw'' he' hd => hn g'' w'' a'' (hg.trans hg') hw'' he' (by rw [hd, put_defers])
          · simp at h
        · show wpListIn (FR ro) 0 X.P ops Q (o :: (l ++ rest)) a w
          unfold wpListIn
          rw [if_neg (by rw [hW]; simp)]
          refine ⟨fun _ _ => trivial, ?_⟩
          exact evQ_ok hX n l known _ _ h g w (a.put o.dst undef) s rest hw (putE_rel he o.dst (.undef _)) fun g'' w'' a'' hg' hw'' he' hd => hn g'' w'' a'' hg' hw'' he' (by rw [hd, put_defers])
      · rename_i d b hund
        have hd := undecided_spec hund
        split at h
        · simp at h
        · rename_i k p hk
          split at h
          · rename_i eA eB hA hB
            split at h
            · rename_i v hv
              have hsplit : (o :: l) ++ rest = (o :: l).take k ++ ((o :: l).drop k ++ rest) := by rw [← List.append_assoc, List.take_append_drop]
              rw [hsplit]
              have hmv := fun (g : Gh) => mergeV_rel (g := g) hv
              have one : ∀ e, evQ X ops n ((o :: l).take k) (d :: known) (env.set d (.bool b)) = some e → (∀ g c, VR g (e.getD p .any) c → VR g v c) → wpListIn (FR ro) 0 X.P ops Q ((o :: l).take k ++ ((o :: l).drop k ++ rest)) a w := by
                intro e he' hve
                have hfr := evQ_frame n _ _ _ _ he'
                refine evQ_ok hX n _ _ _ _ he' g w a s _ hw (set_same he hd) fun g' w' a' hg hw' hr hdf => ?_
                exact evQ_ok hX n _ known _ _ h g' w' a' s rest hw' (merge_rel he hd hg.sub ⟨by rw [hfr.1]; simp, hfr.2⟩ (blockOf_dst hk) hr (hve g')) fun g'' w'' a'' hg' hw'' he'' hd' => hn g'' w'' a'' (hg.trans hg') hw'' he'' (by rw [hd', hdf])
              cases b with
              | true => exact one eA hA fun g c hc => hmv g c hc
              | false => exact one eB hB fun g c hc => hmv g c hc
            · simp at h
          · simp at h

theorem blockQ_ok (hX : CtxOk X) {ops : Array Oper} {Q : Exit → Act → World → Prop} {ro : Option Nat} {l : List Oper} {known : List Nat} {env env' : Env} {d k : Nat} {b : Bool} (hd : env[d]? = some (.bool b))
    (h : blockQ X ops l known env d b = some (k, env')) {g : Gh} {w : World} {a : Act} {s : St} (hw : WR base g s w) (he : VRs g env a.tmps)
    (hn : ∀ g' w' a', Grow base g g' w w' → WR base g' s w' → VRs g' env' a'.tmps → a'.defers = a.defers → wpListIn (FR ro) 0 X.P ops Q (l.drop k) a' w') : wpListIn (FR ro) 0 X.P ops Q l a w := by
  unfold blockQ at h
  split at h
  · simp at h
  · rename_i k' p hk
    split at h
    · rename_i eA eB hA hB
      split at h
      · rename_i v hv
        simp only [Option.some.injEq, Prod.mk.injEq] at h
        obtain ⟨rfl, rfl⟩ := h
        rw [← List.take_append_drop k' l]
        have hmv := fun (g : Gh) => mergeV_rel (g := g) hv
        have one : ∀ e, evQ X ops (l.length + l.length) (l.take k') (d :: known) (env.set d (.bool b)) = some e → (∀ g c, VR g (e.getD p .any) c → VR g v c) → wpListIn (FR ro) 0 X.P ops Q (l.take k' ++ l.drop k') a w := by
          intro e he' hve
          have hfr := evQ_frame _ _ _ _ _ he'
          refine evQ_ok hX _ _ _ _ _ he' g w a s _ hw (set_same he hd) fun g' w' a' hg hw' hr hdf => ?_
          exact hn g' w' a' hg hw' (merge_rel he hd hg.sub ⟨by rw [hfr.1]; simp, hfr.2⟩ (blockOf_dst hk) hr (hve g')) hdf
        cases b with
        | true => exact one eA hA fun g c hc => hmv g c hc
        | false => exact one eB hB fun g c hc => hmv g c hc
      · simp at h
    · simp at h

theorem evOps_ok (hX : CtxOk X) {region : Nat} {ops : Array Oper} (K : Env → St → Prop) (Kp : V → St → Prop) (Q : Exit → Act → World → Prop) : ∀ (l : List Oper) (skip : Nat) (known : List Nat) (i : Nat) (env : Env) (s : St) (g : Gh) (w : World) (a : Act),
    WR base g s w → VRs g env a.tmps → (evOps X region ops l skip known i env s).all K Kp →
    (∀ env' s' g' w' a', K env' s' → Grow base g g' w w' → WR base g' s' w' → VRs g' env' a'.tmps → a'.defers = a.defers → Q .normal a' w') →
    (∀ v s' g' w' c' a', Kp v s' → Grow base g g' w w' → WR base g' s' w' → VR g' v c' → a'.defers = a.defers → Q (.panic [{ v := c', recovered := false }]) a' w') →
    ∀ ro, wpListIn (FR ro) 0 X.P ops Q (l.drop skip) a w
  | [], skip, known, i, env, s, g, w, a, hw, he, h, hn, hp => fun _ => by
    simp only [evOps] at h
    simp only [List.drop_nil]
    exact hn env s g w a h (.refl _ _ _) hw he rfl
  | o :: l, skip + 1, known, i, env, s, g, w, a, hw, he, h, hn, hp => fun ro => by
    simp only [evOps] at h
    exact evOps_ok hX K Kp Q l skip known (i + 1) env s g w a hw he h hn hp ro
  | o :: l, 0, known, i, env, s, g, w, a, hw, he, h, hn, hp => by
    intro ro
    simp only [evOps] at h
    have yes : ∀ known env, VRs g env a.tmps → ((evOp X region i env o.op s).bind fun v s => evOps X region ops l 0 known (i + 1) (putE env o.dst v) s).all K Kp → o.wpIn (FR ro) 0 X.P a w (wpListIn (FR ro) 0 X.P ops Q l) Q := by
      intro known env he h
      have h' := Out.all_bind _ h
      refine evOp_ok hX hw he _ _ _ Q h' (fun v s' g' w' c hK hg hw' hv => ?_) (fun v s' g' w' c hK hg hw' hv => hp v s' g' w' c a hK hg hw' hv rfl) ro
      have hsub := hg.sub
      refine evOps_ok hX K Kp Q l 0 known (i + 1) _ s' g' w' (a.put o.dst c) hw' (putE_rel (he.mono hsub) o.dst hv) hK (fun env' s'' g'' w'' a' hK' hg' hw'' he' hd => ?_) (fun v s'' g'' w'' c' a' hK' hg' hw'' hv' hd => ?_) ro
      · exact hn env' s'' g'' w'' a' hK' (hg.trans hg') hw'' he' (by rw [hd, put_defers])
      · exact hp v s'' g'' w'' c' a' hK' (hg.trans hg') hw'' hv' (by rw [hd, put_defers])
    have no : ∀ known env, VRs g env a.tmps → (evOps X region ops l 0 known (i + 1) (putE env o.dst (.tup [])) s).all K Kp → wpListIn (FR ro) 0 X.P ops Q l (a.put o.dst undef) w := by
      intro known env he h
      refine evOps_ok hX K Kp Q l 0 known (i + 1) _ s g w (a.put o.dst undef) hw (putE_rel he o.dst (.undef _)) h (fun env' s'' g'' w'' a' hK' hg' hw'' he' hd => ?_) (fun v s'' g'' w'' c' a' hK' hg' hw'' hv' hd => ?_) ro
      · exact hn env' s'' g'' w'' a' hK' hg' hw'' he' (by rw [hd, put_defers])
      · exact hp v s'' g'' w'' c' a' hK' hg' hw'' hv' (by rw [hd, put_defers])
    split at h
    · exact h.elim
    · rename_i t hwant
      have hW := wantedE_ok he hwant
      split at h
      · show wpListIn (FR ro) 0 X.P ops Q (o :: l) a w
        unfold wpListIn
        split at h
        · rw [if_pos hW]; exact yes _ _ he h
        · rw [if_neg (by rw [hW]; simp)]; exact ⟨fun _ _ => trivial, no _ _ he h⟩
      · rename_i d b hund
        have hund' : undecided env ops known o = some (d, b) := by
          split at hund
          · exact hund
          · simp at hund
        split at h
        · rename_i k env' hblk
          refine blockQ_ok hX (undecided_spec hund') hblk hw he fun g' w' a' hg hw' he' hdf => ?_
          exact evOps_ok hX K Kp Q l k known (i + 1) env' s g' w' a' hw' he' h (fun env'' s'' g'' w'' a'' hK' hg' hw'' he'' hd => hn env'' s'' g'' w'' a'' hK' (hg.trans hg') hw'' he'' (by rw [hd, hdf]))
            (fun v s'' g'' w'' c' a'' hK' hg' hw'' hv' hd => hp v s'' g'' w'' c' a'' hK' (hg.trans hg') hw'' hv' (by rw [hd, hdf])) ro
        · show wpListIn (FR ro) 0 X.P ops Q (o :: l) a w
          unfold wpListIn
          cases t with
          | true => rw [if_pos hW]; exact yes _ _ (knowG_rel he hwant) (h.1 rfl)
          | false => rw [if_neg (by rw [hW]; simp)]; exact ⟨fun _ _ => trivial, no _ _ (knowG_rel he hwant) (h.2 rfl)⟩

theorem calm_all {α : Type} {K : α → St → Prop} {Kp : V → St → Prop} {ms ms' : List Nat} {x : Out α} (h : (x.calm ms ms').all K Kp) : x.all K (fun v s => ms' = ms ∧ Kp v s) := by
  unfold Out.calm at h
  split at h
  · rename_i e; exact Out.all_mono (fun _ _ h => h) (fun _ _ h => ⟨e, h⟩) _ h
  · exact Out.all_mono (fun _ _ h => h) (fun _ _ h => h.elim) _ (noPan_all _ h)

theorem MR.mono {g g' : Gh} (hs : Sub g g') {ms : List Nat} {ds : List Deferred} (h : MR g ms ds) : MR g' ms ds :=
  ⟨h.1, fun i id d a b => let ⟨x, y, z⟩ := h.2 i id d a b; ⟨x, hs.loc _ _ y, z⟩⟩

theorem MR.unique {g g' : Gh} (hs : Sub g g') {ms : List Nat} {ds ds' : List Deferred} (h : MR g ms ds) (h' : MR g' ms ds') : ds' = ds := by
  apply List.ext_getElem? 
  intro i
  rcases Nat.lt_or_ge i ms.length with hi | hi
  · have h1 : i < ds.length := h.1 ▸ hi
    have h2 : i < ds'.length := h'.1 ▸ hi
    obtain ⟨b, hb, e⟩ := h.2 i ms[i] ds[i] (by simp [hi]) (by simp [h1])
    obtain ⟨b', hb', e'⟩ := h'.2 i ms[i] ds'[i] (by simp [hi]) (by simp [h2])
    have := (hs.loc _ _ hb).symm.trans hb'
    simp only [Option.some.injEq] at this
    subst this
    simp [h1, h2, e, e']
  · have h1 := h.1
    have h2 := h'.1
    rw [List.getElem?_eq_none (by omega), List.getElem?_eq_none (by omega)]

theorem MR.nil (g : Gh) : MR g [] [] := ⟨rfl, fun i id d h => by simp at h⟩

theorem loop_ok {P : Program} {ro : Option Nat} {body : Env → List Nat → St → Out (Ex × Env × List Nat)} {dead : List Nat} {c : Code}
    (hbody : ∀ (g : Gh) (w : World) (a : Act) (env : Env) (ms : List Nat) (s : St), WR base g s w → VRs g env a.tmps → MR g ms a.defers → CodeOk P ro base g w a c (body env ms s)) :
    ∀ (n : Nat) (g : Gh) (w : World) (a : Act) (env : Env) (ms : List Nat) (s : St) (K : Ex × Env × List Nat → St → Prop) (Kp : V → St → Prop) (Q : Exit → Act → World → Prop), WR base g s w → VRs g env a.tmps → MR g ms a.defers →
      (loopN body dead n env ms s).all K Kp →
      (∀ e env' ms' s' g' w' a', K (e, env', ms') s' → Grow base g g' w w' → WR base g' s' w' → VRs g' env' a'.tmps → MR g' ms' a'.defers →
        match e with | .norm => True | .exit id => Q (.exit id) a' w' | .ret => Q .ret a' w') →
      (∀ v s' g' w' c' a', Kp v s' → Grow base g g' w w' → WR base g' s' w' → VR g' v c' → a'.defers = a.defers → Q (.panic [{ v := c', recovered := false }]) a' w') →
      Code.roundsIn (FR ro) 0 P c Q n a w
  | 0, g, w, a, env, ms, s, K, Kp, Q, hw, he, hm, h, hn, hp => h.elim
  | n + 1, g, w, a, env, ms, s, K, Kp, Q, hw, he, hm, h, hn, hp => by
    rw [roundsIn_succ]
    unfold loopN at h
    have h' := Out.all_bind _ h
    refine hbody g w a (clear env dead) ms s hw (clear_rel he dead env he) hm _ _ _ h' (fun e env' ms' s' g' w' a' hK hg hw' he' hd => ?_) (fun v s' g' w' c' a' hK hg hw' hv hd => hp v s' g' w' c' a' hK hg hw' hv hd)
    cases e with
    | norm =>
      simp only [Exit.then]
      refine loop_ok hbody n g' w' a' env' ms' s' K _ Q hw' he' hd (calm_all hK) (fun e env'' ms'' s'' g'' w'' a'' hK' hg' hw'' he'' hd' => ?_) (fun v s'' g'' w'' c' a'' hK' hg' hw'' hv hd' => ?_)
      · exact hn e env'' ms'' s'' g'' w'' a'' hK' (hg.trans hg') hw'' he'' hd'
      · obtain ⟨e, hK'⟩ := hK'
        subst e
        exact hp v s'' g'' w'' c' a'' hK' (hg.trans hg') hw'' hv (hd'.trans (MR.unique hg.sub hm hd))
    | exit id => exact hn _ _ _ _ _ _ _ hK hg hw' he' hd
    | ret => exact hn _ _ _ _ _ _ _ hK hg hw' he' hd

theorem refsL_get {n : Nat} {xs : List V} (h : refsL n xs = true) {i : Nat} {x : V} (hx : xs[i]? = some x) : refsV n x = true := by
  induction xs generalizing i with
  | nil => simp at hx
  | cons y ys ih =>
    simp only [refsL, Bool.and_eq_true] at h
    cases i with
    | zero => simp at hx; subst hx; exact h.1
    | succ i => exact ih h.2 (by simpa using hx)

theorem refs_cells {n : Nat} {x : V} (h : refsV n x = true) {j : Nat} {y : V} (hy : x.cells[j]? = some y) : refsV n y = true := by
  cases x <;> simp only [V.cells] at hy <;> first
    | exact refsL_get (by simpa [refsV] using h) hy
    | (cases j with
       | zero => simp at hy; subst hy; exact h
       | succ j => simp at hy)

def Gh.cut (n : Nat) (g : Gh) : Gh := { g with loc := g.loc.take n }

theorem cut_loc {n : Nat} {g : Gh} {id b : Nat} (h : g.loc[id]? = some b) (hid : Nat.blt id n = true) : (g.cut n).loc[id]? = some b := by
  have : id < n := by simpa [Nat.blt_eq] using hid
  simp only [Gh.cut]
  rw [List.getElem?_take, if_pos this]; exact h

theorem VR.cut {n : Nat} {g : Gh} {x : V} {y : Value} (h : VR g x y) : refsV n x = true → VR (g.cut n) x y := by
  induction h with
  | any v => intro _; exact .any v
  | bool b => intro _; exact .bool b
  | int k n => intro _; exact .int k n
  | str s => intro _; exact .str s
  | nilp => intro _; exact .nilp
  | ptr id off b h => intro hc; exact .ptr id off b (cut_loc h (by simpa only [refsV] using hc))
  | eptr x b off c h1 h2 ih =>
    intro hc
    simp only [refsV] at hc
    exact .eptr x b off c (fun j y h => h1 j y h) (fun j y h => ih j y h (refs_cells hc h))
  | lnil o h => intro _; exact .lnil o h
  | lst o xs b off cap sz c h1 h2 h3 h4 h5 h6 ih =>
    intro hc
    simp only [refsV] at hc
    exact .lst o xs b off cap sz c h1 h2 h3 h4 (fun i x j y a b => h5 i x j y a b) (fun i x j y a b => ih i x j y a b (refs_cells (refsL_get hc a) b))
  | sl id off len cap b off' cap' h1 h0 h2 h3 => intro hc; exact .sl id off len cap b off' cap' (cut_loc h1 (by simpa only [refsV] using hc)) h0 h2 h3
  | fn f a c a' c' h1 h2 h3 h4 ih1 ih2 =>
    intro hc
    simp only [refsV, Bool.and_eq_true] at hc
    exact .fn f a c a' c' h1 h2 (fun i x y hx hy => ih1 i x y hx hy (refsL_get hc.1 hx)) (fun i x y hx hy => ih2 i x y hx hy (refsL_get hc.2 hx))
  | nilf => intro _; exact .nilf
  | yield id b h => intro hc; exact .yield id b (cut_loc h (by simpa only [refsV] using hc))
  | map id b h => intro hc; exact .map id b (cut_loc h (by simpa only [refsV] using hc))
  | nilm => intro _; exact .nilm
  | iface t x y h ih => intro hc; simp only [refsV] at hc; exact .iface t x y (ih hc)
  | nili => intro _; exact .nili
  | agg cs cs' h1 h2 ih => intro hc; simp only [refsV] at hc; exact .agg cs cs' h1 (fun i x y hx hy => ih i x y hx hy (refsL_get hc hx))
  | tup cs cs' h1 h2 ih => intro hc; simp only [refsV] at hc; exact .tup cs cs' h1 (fun i x y hx hy => ih i x y hx hy (refsL_get hc hx))

theorem VRs.cut {n : Nat} {g : Gh} {xs : List V} {ys : Array Value} (h : VRs g xs ys) (hc : refsL n xs = true) : VRs (g.cut n) xs ys :=
  ⟨h.1, fun i x y hx hy => (h.2 i x y hx hy).cut (refsL_get hc hx)⟩

theorem refsM_get {n : Nat} {es : List (V × V)} (h : refsM n es = true) {i : Nat} {e : V × V} (hx : es[i]? = some e) : refsV n e.1 = true ∧ refsV n e.2 = true := by
  induction es generalizing i with
  | nil => simp at hx
  | cons y ys ih =>
    simp only [refsM, Bool.and_eq_true] at h
    cases i with
    | zero => simp at hx; subst hx; exact h.1
    | succ i => exact ih h.2 (by simpa using hx)

theorem BR.cut {n : Nat} {g : Gh} {k : Blk} {o : Obj} (h : BR g k o) (hc : refsBlk n k = true) : BR (g.cut n) k o := by
  cases k <;> cases o <;> simp only [BR, refsBlk] at h hc ⊢
  case lp.loop => exact ⟨h.1, h.2.1, h.2.2.1, h.2.2.2.1.cut hc, h.2.2.2.2⟩
  case df.deferred => exact h
  · exact ⟨h.1, h.2.1, fun i x y a b => (h.2.2.1 i x y a b).cut (refsL_get hc a), h.2.2.2⟩
  · exact ⟨h.1, h.2.1, fun i e e' a b => let ⟨p, q, r⟩ := h.2.2 i e e' a b; ⟨p, q.cut (refsM_get hc a).1, r.cut (refsM_get hc a).2⟩⟩
  · exact h
  · obtain ⟨z, a, b, ⟨k, c, d⟩, e⟩ := h
    exact ⟨z, a, b, ⟨k, cut_loc c hc, d⟩, e⟩

theorem refsH_get {n : Nat} {ks : List Blk} (h : refsH n ks = true) {i : Nat} {k : Blk} (hx : ks[i]? = some k) : refsBlk n k = true := by
  induction ks generalizing i with
  | nil => simp at hx
  | cons y ys ih =>
    simp only [refsH, Bool.and_eq_true] at h
    cases i with
    | zero => simp at hx; subst hx; exact h.1
    | succ i => exact ih h.2 (by simpa using hx)

/-- Rows that nothing looks at any more may be forgotten. -/
theorem WR.cut {n : Nat} (h : WR base g s w) (hc : refsH n (s.heap.take n) = true) : WR base (g.cut n) (s.cut n) w := by
  have hsub : ∀ (i b : Nat), (g.cut n).loc[i]? = some b → g.loc[i]? = some b := by
    intro i b hi
    simp only [Gh.cut, List.getElem?_take] at hi
    split at hi
    · exact hi
    · simp at hi
  refine ⟨by simp [Gh.cut, St.cut, h.len], fun i j b hi hj => h.inj i j b (hsub i b hi) (hsub j b hj), fun i b hi => h.low i b (hsub i b hi), h.room, fun i k b hk hb => ?_, fun b o v hv => ?_, fun i m sz hl => ?_, h.past, h.apart, h.glob⟩
  · have hk' := hk
    simp only [St.cut, List.getElem?_take] at hk'
    split at hk'
    · obtain ⟨o, ho, hr⟩ := h.blk i k b hk' (hsub i b hb)
      exact ⟨o, ho, hr.cut (refsH_get hc hk)⟩
    · simp at hk'
  · obtain ⟨h1, h2⟩ := h.imm b o v hv
    exact ⟨h1, fun i hi => h2 i (hsub i b hi)⟩
  · obtain ⟨b, off, cap, cs, t, fz, h1, h2, h3, h4, h5, h6, h7, h8⟩ := h.own i m sz hl
    exact ⟨b, off, cap, cs, t, fz, h1, h2, fun j hj => h3 j (hsub j b hj), h4, h5, h6, h7, h8⟩

theorem Grow.cut {g' : Gh} {w' : World} (h : Grow base g g' w w') {n : Nat} (hn : g.loc.length = n) : Grow base g (g'.cut n) w w' := by
  refine ⟨fun i b hi => ?_, h.C, h.new, h.hist, h.below⟩
  have hlt : i < n := by
    rcases Nat.lt_or_ge i n with h' | h'
    · exact h'
    · rw [List.getElem?_eq_none (by omega)] at hi; simp at hi
  simp only [Gh.cut, List.getElem?_take, if_pos hlt]
  exact h.loc i b hi

theorem loopC_ok {P : Program} {ro : Option Nat} {body : Env → List Nat → St → Out (Ex × Env × List Nat)} {dead : List Nat} {c : Code}
    (hbody : ∀ (g : Gh) (w : World) (a : Act) (env : Env) (ms : List Nat) (s : St), WR base g s w → VRs g env a.tmps → MR g ms a.defers → CodeOk P ro base g w a c (body env ms s)) :
    ∀ (n : Nat) (g : Gh) (w : World) (a : Act) (env : Env) (s : St) (K : Ex × Env × List Nat → St → Prop) (Kp : V → St → Prop) (Q : Exit → Act → World → Prop), WR base g s w → VRs g env a.tmps → MR g [] a.defers →
      (loopC body dead n env s).all K Kp →
      (∀ e env' ms' s' g' w' a', e ≠ .norm → K (e, env', ms') s' → Grow base g g' w w' → WR base g' s' w' → VRs g' env' a'.tmps → MR g' ms' a'.defers →
        match e with | .norm => True | .exit id => Q (.exit id) a' w' | .ret => Q .ret a' w') →
      (∀ v s' g' w' c' a', Kp v s' → Grow base g g' w w' → WR base g' s' w' → VR g' v c' → a'.defers = a.defers → Q (.panic [{ v := c', recovered := false }]) a' w') →
      Code.roundsIn (FR ro) 0 P c Q n a w
  | 0, g, w, a, env, s, K, Kp, Q, hw, he, hm, h, hn, hp => h.elim
  | n + 1, g, w, a, env, s, K, Kp, Q, hw, he, hm, h, hn, hp => by
    rw [roundsIn_succ]
    unfold loopC at h
    have h' := Out.all_bind _ h
    refine hbody g w a (clear env dead) [] s hw (clear_rel he dead env he) hm _ _ _ h' (fun e env' ms' s' g' w' a' hK hg hw' he' hd => ?_) (fun v s' g' w' c' a' hK hg hw' hv hd => hp v s' g' w' c' a' hK hg hw' hv hd)
    cases e with
    | norm =>
      simp only [Exit.then]
      simp only at hK
      cases hc : (refsL s.heap.length (clear env' dead) && refsH s.heap.length (s'.heap.take s.heap.length) && ms'.isEmpty) with
      | false => rw [hc] at hK; exact (hK.2 rfl).elim
      | true =>
        rw [hc] at hK
        have hK := hK.1 rfl
        simp only [Bool.and_eq_true, List.isEmpty_iff] at hc
        obtain ⟨⟨hc1, hc2⟩, rfl⟩ := hc
        have hcut := hg.cut (n := s.heap.length) hw.len
        have hds : a'.defers = a.defers := MR.unique hg.sub hm hd
        refine loopC_ok hbody n (g'.cut s.heap.length) w' a' (clear env' dead) (s'.cut s.heap.length) K Kp Q (hw'.cut hc2) ((clear_rel he' dead env' he').cut hc1) (by rw [hds]; exact ⟨hm.1, fun i id d h => by simp at h⟩) hK
          (fun e env'' ms'' s'' g'' w'' a'' hne hK' hg' hw'' he'' hd' => hn e env'' ms'' s'' g'' w'' a'' hne hK' (hcut.trans hg') hw'' he'' hd')
          (fun v s'' g'' w'' c' a'' hK' hg' hw'' hv hd' => hp v s'' g'' w'' c' a'' hK' (hcut.trans hg') hw'' hv (by rw [hd', hds]))
    | exit id => exact hn (.exit id) _ _ _ _ _ _ (by simp) hK hg hw' he' hd
    | ret => exact hn .ret _ _ _ _ _ _ (by simp) hK hg hw' he' hd

theorem loopN_norm {body : Env → List Nat → St → Out (Ex × Env × List Nat)} {dead : List Nat} : ∀ (n : Nat) (env : Env) (ms : List Nat) (s : St) (K : Ex × Env × List Nat → St → Prop) (Kp : V → St → Prop),
    (loopN body dead n env ms s).all K Kp → (loopN body dead n env ms s).all (fun r s => r.1 ≠ .norm ∧ K r s) Kp := by
  intro n
  induction n with
  | zero => intro env ms s K Kp h; exact h
  | succ n ih =>
    intro env ms s K Kp h
    unfold loopN at h ⊢
    have key : ∀ (x : Out (Ex × Env × List Nat)), (x.bind fun r s => match r.1 with | .norm => (loopN body dead n r.2.1 r.2.2 s).calm ms r.2.2 | e => .ok (e, r.2) s).all K Kp →
        (x.bind fun r s => match r.1 with | .norm => (loopN body dead n r.2.1 r.2.2 s).calm ms r.2.2 | e => .ok (e, r.2) s).all (fun r s => r.1 ≠ .norm ∧ K r s) Kp := by
      intro x
      induction x with
      | ok r s =>
        intro h
        simp only [Out.bind] at h ⊢
        split at h
        · unfold Out.calm at h ⊢
          split at h
          · rename_i e; rw [if_pos e]; exact ih _ _ _ _ _ h
          · rename_i e
            rw [if_neg e]
            have h1 := noPan_all _ h
            have h2 := ih _ _ _ _ _ h1
            have back : ∀ (y : Out (Ex × Env × List Nat)) (L : Ex × Env × List Nat → St → Prop), y.all L (fun _ _ => False) → y.noPan.all L Kp := by
              intro y L
              induction y with
              | ok _ _ => exact id
              | pan _ _ => exact fun h => h.elim
              | err => exact fun h => h.elim
              | choice m k ihk => exact fun h i hi => ihk i (h i hi)
              | br t x y ih1 ih2 => exact fun h => ⟨fun e => ih1 (h.1 e), fun e => ih2 (h.2 e)⟩
            exact back _ _ h2
        · rename_i e hne
          cases hr : r.1 with
          | norm => exact absurd hr hne
          | exit id => rw [hr] at h; exact ⟨by simp, h⟩
          | ret => rw [hr] at h; exact ⟨by simp, h⟩
      | pan v s => intro h; exact h
      | err => intro h; exact h
      | choice m k ihk => intro h i hi; exact ihk i (h i hi)
      | br t x y ih1 ih2 => intro h; exact ⟨fun e => ih1 (h.1 e), fun e => ih2 (h.2 e)⟩
    exact key _ h

/-- Less is known of the temporaries. -/
def Weak (e e' : Env) : Prop := e.length = e'.length ∧ ∀ (i : Nat) (x : V), e[i]? = some x → x = .any ∨ e'[i]? = some x

theorem Weak.rel {e e' : Env} {tmps : Array Value} (h : Weak e e') (he : VRs g e' tmps) : VRs g e tmps := by
  refine ⟨h.1.trans he.1, fun i x y hx hy => ?_⟩
  rcases h.2 i x hx with rfl | h'
  · exact .any _
  · exact he.2 i x y h' hy

/-- A contract for a loop. -/
def LoopOk (X : Ctx) (c : Code) (h : Env → List Nat → St → Out (Ex × Env × List Nat)) : Prop :=
  ∀ (env : Env) (ms : List Nat) (s : St) (K : Ex × Env × List Nat → St → Prop) (Kp : V → St → Prop), (h env ms s).all K Kp →
    ∃ n, (loopN (evCode X c) (X.cfg.dead X.self (firstRegion c)) n env ms s).all (fun r s => ∃ env', Weak env' r.2.1 ∧ K (r.1, env', r.2.2) s) Kp ∨
      (ms = [] ∧ (loopC (evCode X c) (X.cfg.dead X.self (firstRegion c)) n env s).all (fun r s => ∃ env', Weak env' r.2.1 ∧ K (r.1, env', r.2.2) s) Kp)

def LoopsOk (X : Ctx) (c : Code) : Prop := X.round = false → ∀ c' ∈ loopsOf c, ∀ h, X.cfg.loop X.self (firstRegion c') = some h → LoopOk X c' (h X.depth)

theorem LoopsOk.sub {X : Ctx} {c d : Code} (h : LoopsOk X c) (hs : ∀ c' ∈ loopsOf d, c' ∈ loopsOf c) : LoopsOk X d := fun hr c' hc => h hr c' (hs c' hc)

theorem evCode_ok (hX : CtxOk X) {ro : Option Nat} (hro : X.round = false → ro = none) : ∀ (c : Code) (hs : codeSched X.cfg X.self c = true) (hl : LoopsOk X c) (base : Nat) (g : Gh) (w : World) (a : Act) (env : Env) (ms : List Nat) (s : St), WR base g s w → VRs g env a.tmps → MR g ms a.defers →
    CodeOk X.P ro base g w a c (evCode X c env ms s)
  | .skip, hs, hl, base, g, w, a, env, ms, s, hw, he, hm => fun K Kp Q h hn _ => wpIn_skip (hn .norm env ms s g w a h (.refl _ _ _) hw he hm)
  | .label l, hs, hl, base, g, w, a, env, ms, s, hw, he, hm => fun K Kp Q h hn _ => wpIn_label (hn .norm env ms s g w a h (.refl _ _ _) hw he hm)
  | .region id ops false, hs, hl, base, g, w, a, env, ms, s, hw, he, hm => fun K Kp Q h hn hp => by
    refine wpIn_region_list ?_
    have h' := Out.all_bind _ h
    exact evOps_ok hX _ _ Q ops.toList 0 [] 0 env s g w a hw he h' (fun env' s' g' w' a' hK hg hw' he' hd => hn .norm env' ms s' g' w' a' hK hg hw' he' (by rw [hd]; exact hm.mono hg.sub)) hp ro
  | .region id ops true, hs, hl, base, g, w, a, env, ms, s, hw, he, hm => fun K Kp Q h hn hp => by
    unfold evCode at h
    simp only [codeSched] at hs
    cases hr : X.cfg.rest X.self id with
    | none => rw [hr] at h; exact h.elim
    | some l =>
      rw [hr] at h hs
      simp only [Bool.and_eq_true, beq_iff_eq] at h hs
      have h' := Out.all_bind _ h
      have hall := sched_ok (X := X) (region := id) l _ env s (by simp) hs.2 h'
      rw [hs.1] at hall
      obtain ⟨hd1, hd2⟩ := WR.drew hw
      refine wpIn_region_any hX.mixed (wpAny_of_all hX _ _ Q _ _ env s g _ a hd1 he hall (fun env' s' g' w' a' hK hg hw' he' hd => hn .norm env' ms s' g' w' a' hK (hd2.trans hg) hw' he' (by rw [hd]; exact hm.mono hg.sub))
        (fun v s' g' w' c' a' hK hg hw' hv hd => hp v s' g' w' c' a' hK (hd2.trans hg) hw' hv hd) ro)
  | .seq x y, hs, hl, base, g, w, a, env, ms, s, hw, he, hm => fun K Kp Q h hn hp => by
    refine wpIn_seq ?_
    have h' := Out.all_bind _ h
    simp only [codeSched, Bool.and_eq_true] at hs
    refine evCode_ok hX hro x hs.1 (hl.sub fun c' hc => by simp only [loopsOf, List.mem_append]; exact .inl hc) base g w a env ms s hw he hm _ _ _ h' (fun e env' ms' s' g' w' a' hK hg hw' he' hd => ?_) (fun v s' g' w' c' a' hK hg hw' hv hd => hp v s' g' w' c' a' hK hg hw' hv hd)
    cases e with
    | norm =>
      simp only [Exit.then]
      refine evCode_ok hX hro y hs.2 (hl.sub fun c' hc => by simp only [loopsOf, List.mem_append]; exact .inr hc) base g' w' a' env' ms' s' hw' he' hd _ _ _ (calm_all hK) (fun e env'' ms'' s'' g'' w'' a'' hK' hg' hw'' he'' hd' => ?_) (fun v s'' g'' w'' c' a'' hK' hg' hw'' hv hd' => ?_)
      · exact hn e env'' ms'' s'' g'' w'' a'' hK' (hg.trans hg') hw'' he'' hd'
      · obtain ⟨e, hK'⟩ := hK'
        subst e
        exact hp v s'' g'' w'' c' a'' hK' (hg.trans hg') hw'' hv (hd'.trans (MR.unique hg.sub hm hd))
    | exit id => exact hn _ _ _ _ _ _ _ hK hg hw' he' hd
    | ret => exact hn _ _ _ _ _ _ _ hK hg hw' he' hd
  | .cond c x y, hs, hl, base, g, w, a, env, ms, s, hw, he, hm => fun K Kp Q h hn hp => by
    have hc := evalO_rel (a := a) he c
    simp only [codeSched, Bool.and_eq_true] at hs
    unfold evCode at h
    split at h
    · rename_i t ht
      rw [ht] at hc
      generalize hcv : a.eval c = cv at hc
      cases hc
      refine wpIn_cond hcv ?_
      split at h
      · cases t with
        | true => exact evCode_ok hX hro x hs.1 (hl.sub fun c' hc => by simp only [loopsOf, List.mem_append]; exact .inl hc) base g w a _ ms s hw (knowC_rel he ht) hm K Kp Q (h.1 rfl) hn hp
        | false => exact evCode_ok hX hro y hs.2 (hl.sub fun c' hc => by simp only [loopsOf, List.mem_append]; exact .inr hc) base g w a _ ms s hw (knowC_rel he ht) hm K Kp Q (h.2 rfl) hn hp
      · cases t with
        | true => exact evCode_ok hX hro x hs.1 (hl.sub fun c' hc => by simp only [loopsOf, List.mem_append]; exact .inl hc) base g w a env ms s hw he hm K Kp Q h hn hp
        | false => exact evCode_ok hX hro y hs.2 (hl.sub fun c' hc => by simp only [loopsOf, List.mem_append]; exact .inr hc) base g w a env ms s hw he hm K Kp Q h hn hp
    · exact h.elim
  | .block id c, hs, hl, base, g, w, a, env, ms, s, hw, he, hm => fun K Kp Q h hn hp => by
    refine wpIn_block ?_
    have h' := Out.all_bind _ h
    simp only [codeSched] at hs
    refine evCode_ok hX hro c hs (hl.sub fun c' hc => by simpa only [loopsOf] using hc) base g w a env ms s hw he hm _ _ _ h' (fun e env' ms' s' g' w' a' hK hg hw' he' hd => ?_) (fun v s' g' w' c' a' hK hg hw' hv hd => hp v s' g' w' c' a' hK hg hw' hv hd)
    cases e with
    | norm => exact hn _ _ _ _ _ _ _ hK hg hw' he' hd
    | exit i =>
      simp only [Exit.inBlock]
      simp only at hK
      split
      · rename_i e; rw [if_pos e] at hK; exact hn .norm _ _ _ _ _ _ hK hg hw' he' hd
      · rename_i e; rw [if_neg e] at hK; exact hn (.exit i) _ _ _ _ _ _ hK hg hw' he' hd
    | ret => exact hn _ _ _ _ _ _ _ hK hg hw' he' hd
  | .exit id, hs, hl, base, g, w, a, env, ms, s, hw, he, hm => fun K Kp Q h hn _ => wpIn_exit (hn (.exit id) env ms s g w a h (.refl _ _ _) hw he hm)
  | .ret, hs, hl, base, g, w, a, env, ms, s, hw, he, hm => fun K Kp Q h hn _ => wpIn_ret (hn .ret env ms s g w a h (.refl _ _ _) hw he hm)
  | .loop c, hs, hl, base, g, w, a, env, ms, s, hw, he, hm => fun K Kp Q h hn hp => by
    have gen : ∀ n, (loopN (evCode X c) (X.cfg.dead X.self (firstRegion c)) n env ms s).all (fun r s => ∃ env', Weak env' r.2.1 ∧ K (r.1, env', r.2.2) s) Kp → (Code.loop c).wpIn (FR ro) 0 X.P Q a w := by
      intro n h
      refine wpIn_loop_rounds n ?_
      refine loop_ok (fun g w a env ms s hw he hm => evCode_ok hX hro c (by simpa only [codeSched] using hs) (hl.sub fun c' hc => by simp only [loopsOf, List.mem_cons]; exact .inr hc) base g w a env ms s hw he hm) n g w a env ms s _ Kp Q hw he hm (loopN_norm n env ms s _ Kp h) (fun e env' ms' s' g' w' a' hK hg hw' he' hd => ?_) hp
      cases e with
      | norm => trivial
      | exit id => obtain ⟨_, env'', hwk, hK⟩ := hK; exact hn (.exit id) _ _ _ _ _ _ hK hg hw' (hwk.rel he') hd
      | ret => obtain ⟨_, env'', hwk, hK⟩ := hK; exact hn .ret _ _ _ _ _ _ hK hg hw' (hwk.rel he') hd
    have gen' : ∀ n, (loopN (evCode X c) (X.cfg.dead X.self (firstRegion c)) n env ms s).all K Kp → (Code.loop c).wpIn (FR ro) 0 X.P Q a w :=
      fun n h => gen n (Out.all_mono (fun r s h => ⟨r.2.1, ⟨rfl, fun i x hx => .inr hx⟩, h⟩) (fun _ _ h => h) _ h)
    unfold evCode at h
    split at h
    · exact gen' LF h
    · rename_i hr
      split at h
      · rename_i h' hl'
        obtain ⟨n, hn'⟩ := hl (by simpa using hr) c (by simp [loopsOf]) h' hl' env ms s K Kp h
        rcases hn' with hn' | ⟨rfl, hn'⟩
        · exact gen n hn'
        · refine wpIn_loop_rounds n ?_
          refine loopC_ok (fun g w a env ms s hw he hm => evCode_ok hX hro c (by simpa only [codeSched] using hs) (hl.sub fun c' hc => by simp only [loopsOf, List.mem_cons]; exact .inr hc) base g w a env ms s hw he hm) n g w a env s _ Kp Q hw he hm hn' (fun e env' ms' s' g' w' a' hne hK hg hw' he' hd => ?_) hp
          cases e with
          | norm => trivial
          | exit id => obtain ⟨env'', hwk, hK⟩ := hK; exact hn (.exit id) _ _ _ _ _ _ hK hg hw' (hwk.rel he') hd
          | ret => obtain ⟨env'', hwk, hK⟩ := hK; exact hn .ret _ _ _ _ _ _ hK hg hw' (hwk.rel he') hd
      · exact gen' LF h
  | .scope c, hs, hl, base, g, w, a, env, ms, s, hw, he, hm => fun K Kp Q h hn hp => h.elim
  | .rangeFunc f ps asg body, hs, hl, base, g, w, a, env, ms, s, hw, he, hm => fun K Kp Q h hn hp => by
    unfold evCode at h
    split at h
    · exact h.elim
    · rename_i hr
      have := hro (by simpa using hr)
      subst this
      split at h
      · rename_i fid first captured hf
        have h1 := noPan_all _ (Out.all_bind _ h)
        have hfr := evalO_rel (a := a) he f
        rw [hf] at hfr
        generalize hfv : a.eval f = cf at hfr
        cases hfr with
        | fn _ _ _ first' captured' q1 q2 q3 q4 =>
          refine wpIn_rangeFunc fun fn _ => ?_
          obtain ⟨u1, u2⟩ := hw.alloc (k := .df true) (o := .deferred (some [])) rfl
          obtain ⟨v1, v2⟩ := u1.alloc (k := .lp .ready none X.self env ps.toList asg body)
            (o := .loop { state := .ready, pending := none, fn, tmps := a.tmps, params := ps, assign := asg, body, defers := w.heap.size })
            ⟨rfl, rfl, fun _ => nofun, (he.mono u2.sub).mono (Gh.sub_addLoc _ _), rfl, rfl, rfl⟩
          have huv := u2.trans v2
          have hsz : (w.alloc (.deferred (some []))).heap.size = w.heap.size + 1 := by simp
          have l0 : ((g.addLoc w.heap.size).addLoc (w.alloc (.deferred (some []))).heap.size).loc[s.heap.length]? = some w.heap.size := v2.loc _ _ (getLast_loc hw)
          have l1 : ((g.addLoc w.heap.size).addLoc (w.alloc (.deferred (some []))).heap.size).loc[s.heap.length + 1]? = some (w.heap.size + 1) := by
            have := getLast_loc u1
            simp only [List.length_append, List.length_singleton] at this
            rw [this, hsz]
          have hargs : VRs ((g.addLoc w.heap.size).addLoc (w.alloc (.deferred (some []))).heap.size) (first ++ [.yield (s.heap.length + 1)] ++ captured) (first' ++ #[.func (.yield (w.heap.size + 1)) #[] #[]] ++ captured') :=
            (VRs.append (⟨q1, fun i x y hx hy => (q3 i x y hx hy).mono huv.sub⟩) (VRs.singleton (.yield _ _ l1))).append ⟨q2, fun i x y hx hy => (q4 i x y hx hy).mono huv.sub⟩
          obtain ⟨fn', hfn, hbody⟩ := (callV_ok hX fid).2 _ _ _ _ h1
          have hname : (fn'.name == "runtime.NumGoroutine") = false := by
            have hmem : fn' ∈ X.P.funcs := Array.mem_of_getElem? hfn
            have := Array.all_eq_true_iff_forall_mem.1 hX.names fn' hmem
            simpa using this
          have hnone : fn'.body.isNone = false := by cases hb : fn'.body <;> simp_all
          refine ⟨_, _, _, { target := .fn (.func fid) captured', args := first' ++ #[.func (.yield (w.heap.size + 1)) #[] #[]] }, ((w.alloc (.deferred (some []))).alloc (.loop { state := .ready, pending := none, fn, tmps := a.tmps, params := ps, assign := asg, body, defers := w.heap.size })), fid, first' ++ #[.func (.yield (w.heap.size + 1)) #[] #[]] ++ captured', ((w.alloc (.deferred (some []))).alloc (.loop { state := .ready, pending := none, fn, tmps := a.tmps, params := ps, assign := asg, body, defers := w.heap.size })), run_enterLoop_outer fn a.tmps ps asg body, ?_, fun _ _ => trivial, ?_, FR_depth none, ?_⟩
          · have e1 : Array.map a.eval #[Operand.const (Value.func (Fn.yield (w.heap.size + 1)) #[] #[])] = #[Value.func (Fn.yield (w.heap.size + 1)) #[] #[]] := by simp [Act.eval]
            simp only [Sem.run_bind, resolve, hfv, Deferred.ofValue, Sem.run_pure, Result.andThen_ok, e1]
          · simp only [invoke, callFunc, Sem.run_bind, run_program, Result.andThen_ok, hfn, hname, hnone, Bool.false_eq_true, if_false, Sem.run_pure]
          · have hcalls := (callV_ok hX fid).1 _ _ base _ _ _ _ _ v1 hargs h1
            refine CallsIn.mono (callsIn_wide.2 hcalls : CallsIn Fence.wide _ _ _ _ _ _) fun e w' hpost => ?_
            cases e with
            | panicked ch => obtain ⟨v', s', g', c', _, hf, _⟩ := hpost; exact hf.elim
            | outgrown => exact hpost.elim
            | returned v =>
              obtain ⟨v', s', g', hK, hg, hw', hv⟩ := hpost
              split at hK
              · rename_i st3 pend3 fn3 env3 ps3 asg3 body3 hlp3
                split at hK
                · exact hK.elim
                · rename_i hst
                  have hb3 := hg.loc' l1
                  obtain ⟨r3, hr3, x1, x2, x3, x5, x6, x7, x8⟩ := lp_blk hw' hb3 hlp3
                  obtain ⟨y1, y2⟩ := hw'.turn hb3 (k := .lp .exhausted pend3 fn3 env3 ps3 asg3 body3) (o := .loop { r3 with state := .exhausted }) ⟨rfl, x2, x3, x5, x6, x7, x8⟩
                  have hend : (Instr.endLoop (w.heap.size + 1)).run X.P w' = .ok r3.pending (setBlk w' (w.heap.size + 1) (.loop { r3 with state := .exhausted })) := by
                    unfold Instr.endLoop
                    have hbz : (r3.state == .busy) = false := by rw [x1]; cases st3 <;> simp_all <;> rfl
                    simp only [Sem.run_bind, getLoop_run hr3, setLoop_run _ hr3, Result.andThen_ok, hbz, Bool.false_eq_true, if_false, Sem.run_pure]
                  refine ⟨_, _, hend, ?_⟩
                  have hall := (huv.trans hg).trans y2
                  have hmr : MR g' (s.heap.length :: ms) ([{ target := .collected w.heap.size, args := #[] }] ++ a.defers) := by
                    have hm' := hm.mono hall.sub
                    refine ⟨by simp [hm.1], fun i id d hi hd => ?_⟩
                    cases i with
                    | zero => simp at hi hd; subst hi; subst hd; exact ⟨_, hg.loc' l0, rfl⟩
                    | succ i => exact hm'.2 i id d (by simpa using hi) (by simpa using hd)
                  have fin := hn _ _ _ _ g' _ { a with defers := [{ target := .collected w.heap.size, args := #[] }] ++ a.defers } hK hall y1 (he.mono hall.sub) hmr
                  cases pend3 with
                  | none => rw [x2] at fin ⊢; exact fin
                  | some e =>
                    rw [x2] at fin ⊢
                    cases e with
                    | norm => exact absurd rfl (x3 _ rfl)
                    | exit id => exact wpIn_exit fin
                    | ret => exact wpIn_ret fin
              · exact hK.elim
      · exact h.elim
  | .goto l, hs, hl, base, g, w, a, env, ms, s, hw, he, hm => fun K Kp Q h hn hp => h.elim
  | .refuse why, hs, hl, base, g, w, a, env, ms, s, hw, he, hm => fun K Kp Q h hn hp => h.elim

theorem resV_ok {P : Program} {env : Env} (hw : WR base g s w) (he : VRs g env a.tmps) : ∀ (l : List ResultVar) (vs : List V), resV P env s l = some vs →
    ∃ cs : List Value, VRs g vs cs.toArray ∧ (l.mapM fun
      | .tmp t => pure (a.tmps.getD t undef)
      | .cell x t => do loadVar t (← asAddr (a.tmps.getD x undef)) : Sem (List Value)).run P w = .ok cs w
  | [], vs, h => by
    simp only [resV, Option.some.injEq] at h
    subst h
    exact ⟨[], VRs.nil, by simp⟩
  | .tmp t :: l, vs, h => by
    simp only [resV, Option.map_eq_some_iff] at h
    obtain ⟨vs', h', rfl⟩ := h
    obtain ⟨cs, h1, h2⟩ := resV_ok hw he l vs' h'
    refine ⟨a.tmps.getD t undef :: cs, VRs.cons (he.get t) h1, ?_⟩
    simp only [List.mapM_cons, Sem.run_bind, Sem.run_pure, Result.andThen_ok, h2]
  | .cell x t :: l, vs, h => by
    simp only [resV] at h
    split at h
    · rename_i v hv
      simp only [Option.map_eq_some_iff] at h
      obtain ⟨vs', h', rfl⟩ := h
      obtain ⟨cs, h1, h2⟩ := resV_ok hw he l vs' h'
      obtain ⟨c, hc, hr⟩ := loadV_ok (P := P) hw (he.get x) hv
      refine ⟨c :: cs, VRs.cons hc h1, ?_⟩
      have hx := he.get x
      have haddr : ∃ ad, a.tmps.getD x undef = .pointer (some ad) := by
        unfold loadV at hv
        generalize hcx : a.tmps.getD x undef = cx at hx
        split at hv
        · rename_i e; rw [e] at hx; cases hx; exact ⟨_, rfl⟩
        · rename_i e; rw [e] at hx; cases hx; exact ⟨_, rfl⟩
        · simp at hv
      obtain ⟨ad, had⟩ := haddr
      rw [had] at hr
      simp only [Instr.loadAt, Sem.run_bind, Instr.sureAddr, Sem.run_pure, Result.andThen_ok] at hr
      have hp : (asAddr (a.tmps.getD x undef)).run P w = .ok ad w := by rw [had]; rfl
      simp only [List.mapM_cons, Sem.run_bind, Sem.run_pure, Result.andThen_ok, hp, hr, h2]
    · simp at h

theorem results_ok {fn : Func} {P : Program} {env : Env} {vs : List V} (hw : WR base g s w) (he : VRs g env a.tmps) (h : resV P env s fn.results.toList = some vs) :
    ∃ c, VR g (tupV vs) c ∧ (results fn a.tmps).run P w = .ok c w := by
  obtain ⟨cs, h1, h2⟩ := resV_ok hw he _ _ h
  refine ⟨if h : cs.toArray.size = 1 then cs.toArray[0] else .tuple cs.toArray, ?_, ?_⟩
  · unfold tupV
    split
    · rename_i v
      have hl := h1.1
      simp at hl
      have : cs.toArray.size = 1 := by simp; omega
      rw [dif_pos this]
      exact h1.2 0 v _ rfl (by simp [this])
    · rename_i hne
      rw [dif_neg]
      · exact .tup _ _ h1.1 h1.2
      · intro hs
        have hl := h1.1
        rw [hs] at hl
        cases vs with
        | nil => simp at hl
        | cons v r => cases r with
          | nil => exact hne v rfl
          | cons _ _ => simp at hl
  · unfold results
    rw [Array.mapM_eq_mapM_toList]
    simp only [Sem.run_bind, Sem.run_map]
    erw [h2]
    simp only [Result.andThen_ok, Sem.run_pure]

/-! ### functions -/
structure CfgOk (P : Program) (cfg : Cfg) : Prop where
  names : NamesOk P
  mixed : P.follows .mixedOrders = true
  sched : ∀ f fn c, P.funcs[f]? = some fn → fn.body = some c → codeSched cfg f c = true
  loop : ∀ f fn c, P.funcs[f]? = some fn → fn.body = some c → ∀ k, LoopsOk { P, cfg, self := f, call := (evTwo P cfg k).call, run := (evTwo P cfg k).run, round := false, depth := k } c
  ext : ∀ f h, cfg.ext f = some h → CallOk P f h ∧ ∃ fn, P.funcs[f]? = some fn ∧ fn.body.isSome = true
  quiet : ∀ f h, cfg.quiet f = some h → cfg.ext f = some fun args s => .ofOption (h args) s

theorem df_blk (hw : WR base g s w) {id b : Nat} (hl : g.loc[id]? = some b) (hb : s.heap[id]? = some (.df true)) : w.heap[b]? = some (.deferred (some [])) := by
  obtain ⟨o, ho, hr⟩ := hw.blk id _ b hb hl
  cases o <;> simp only [BR] at hr
  rw [ho, hr]; rfl

theorem unmark_ok {P : Program} {fn : Func} {tmps : Array Value} {R : Ending → World → Prop} : ∀ (ms : List Nat) (ds : List Deferred) (s s' : St) (w : World), MR g ms ds → WR base g s w → unmark ms s = some s' →
    (∀ w', WR base g s' w' → Grow base g g w w' → LeavesIn Fence.wide 0 P fn tmps R [] .returning w') → LeavesInM Fence.wide 0 P fn tmps R ds .returning w
  | [], ds, s, s', w, hm, hw, h, hn => by
    have : ds = [] := List.length_eq_zero_iff.1 hm.1.symm
    subst this
    simp only [unmark, Option.some.injEq] at h
    subst h
    exact hn w hw (.refl _ _ _)
  | id :: r, [], s, s', w, hm, hw, h, hn => by have := hm.1; simp at this
  | id :: r, d :: ds, s, s', w, hm, hw, h, hn => by
    obtain ⟨b, hb, rfl⟩ := hm.2 0 id d rfl rfl
    unfold unmark at h
    split at h
    · rename_i hdf
      have hblk := df_blk hw hb hdf
      obtain ⟨u1, u2⟩ := hw.turn hb (k := .df false) (o := .deferred none) rfl
      refine ⟨by simp, .inl ⟨b, _, rfl, run_takeDeferred hblk, ?_⟩⟩
      refine unmark_ok r ds _ s' _ ⟨by have := hm.1; simp at this; exact this, fun i id' d' hi hd => hm.2 (i + 1) id' d' (by simpa using hi) (by simpa using hd)⟩ u1 h fun w' hw' hg => hn w' hw' (u2.trans hg)
    · simp at h

theorem evTwo_ok {P : Program} {cfg : Cfg} (hc : CfgOk P cfg) : ∀ (k : Nat), (∀ f, CallOk P f ((evTwo P cfg k).call f)) ∧ (∀ f args s K Kp, ((evTwo P cfg k).call f args s).all K Kp → ∃ fn, P.funcs[f]? = some fn ∧ fn.body.isSome = true) ∧
    RunOk P cfg (evTwo P cfg k).run
  | 0 => ⟨fun f args s base g w cargs K Kp _ _ h => h.elim, fun f args s K Kp h => h.elim, fun f c base g w a env s ro _ _ _ _ K Kp Q h => h.elim⟩
  | k + 1 => by
    obtain ⟨ih1, ih2, ih3⟩ := evTwo_ok hc k
    have hX : ∀ f r, CtxOk { P, cfg, self := f, call := (evTwo P cfg k).call, run := (evTwo P cfg k).run, round := r, depth := k } := fun f r => ⟨ih3, hc.names, hc.mixed, ih1, ih2, hc.ext, hc.quiet⟩
    refine ⟨?_, ?_, ?_⟩
    · intro f args s base g w cargs K Kp hw hargs h
      unfold evTwo at h
      simp only at h
      split at h
      · exact h.elim
      · rename_i fn hfn
        split at h
        · exact h.elim
        · rename_i c hbody
          have h' := Out.all_bind _ h
          refine (callsIn_wide (n := 0)).1 (callsIn_of_wp_marks (F := Fence.wide) hfn hbody trivial ?_)
          have he : VRs g (args ++ List.replicate (fn.ntmps - args.length) .any) (cargs ++ Array.replicate (fn.ntmps - cargs.size) undef) := by
            rw [hargs.1]
            exact hargs.append (VRs.replicate_any _ _)
          refine evCode_ok (hX f false) (ro := none) (fun _ => rfl) c (hc.sched f fn c hfn hbody) (hc.loop f fn c hfn hbody k) base g w { tmps := cargs ++ Array.replicate (fn.ntmps - cargs.size) undef, defers := [] } _ [] s hw he (MR.nil g) _ _ _ h'
            (fun e env' ms' s' g' w' a' hK hg hw' he' hd => ?_) (fun v s' g' w' c' a' hK hg hw' hv hd => ?_)
          · have hres : (match unmark ms' s' with | some s => (match resV P env' s fn.results.toList with | some vs => Out.ok (tupV vs) s | none => .err) | none => .err).all K Kp →
                LeavesInM Fence.wide 0 P fn a'.tmps (Post base g w K Kp) a'.defers .returning w' := by
              intro hKK
              split at hKK
              · rename_i s'' hun
                split at hKK
                · rename_i vs hvs
                  refine unmark_ok ms' a'.defers s' s'' w' hd hw' hun fun w'' hw'' hg' => ?_
                  obtain ⟨cv, hcv, hrun⟩ := results_ok hw'' he' hvs
                  exact ⟨cv, hrun, tupV vs, s'', g', hKK, hg.trans hg', hw'', hcv⟩
                · exact hKK.elim
              · exact hKK.elim
            cases e with
            | norm => exact hres hK
            | ret => exact hres hK
            | exit id => exact hK.elim
          · show LeavesInM _ _ _ _ _ _ a'.defers _ _
            rw [hd]
            exact ⟨v, s', g', c', rfl, hK, hg, hw', hv⟩
    · intro f args s K Kp h
      unfold evTwo at h
      simp only at h
      split at h
      · exact h.elim
      · rename_i fn hfn
        split at h
        · exact h.elim
        · rename_i c hbody
          exact ⟨fn, hfn, by simp [hbody]⟩
    · intro f c base g w a env s ro hs hw he hd K Kp Q h hn hp
      exact evCode_ok (hX f true) (ro := ro) (fun h => by simp at h) c hs (fun h => by simp at h) base g w a env [] s hw he (by rw [hd]; exact MR.nil g) K Kp Q h hn hp

theorem evFn_ok {P : Program} {cfg : Cfg} (hc : CfgOk P cfg) (k : Nat) : (∀ f, CallOk P f (evFn P cfg k f)) ∧ ∀ f args s K Kp, (evFn P cfg k f args s).all K Kp → ∃ fn, P.funcs[f]? = some fn ∧ fn.body.isSome = true :=
  ⟨(evTwo_ok hc k).1, (evTwo_ok hc k).2.1⟩

/-- **The evaluator is sound**: what it says of a call on an empty heap, in all orders, holds of the model's call, whatever the world. -/
theorem sound {P : Program} {cfg : Cfg} (hc : CfgOk P cfg) {k : Nat} {f : FuncId} {args : List V} {K : V → Prop} {w : World} {cargs : Array Value} {g : Gh}
    (hg : g.loc = []) (hh : g.hist = fun _ _ => none) (hi : Imm g w) (hgl : Glob.low ≤ w.heap.size ∧ Glob.I w) (hargs : VRs g args cargs)
    (h : (evFn P cfg k f args {}).all (fun v _ => K v) (fun _ _ => False)) :
    Calls P f cargs w fun e w' => ∃ v c g', e = .returned c ∧ K v ∧ VR g' v c ∧ Below w.heap.size w w' := by
  have hw : WR w.heap.size g {} w :=
    ⟨by rw [hg]; rfl, fun i j b h => by rw [hg] at h; simp at h, fun i b h => by rw [hg] at h; simp at h, Nat.le_refl _, fun i k b h => by simp at h,
      fun b o v hc => ⟨hi b o v hc, fun i h => by rw [hg] at h; simp at h⟩, fun i n sz hl => by simp at hl, fun i n _ => by rw [hh], fun i j n m sz sz' b o c o' c' hl => by simp at hl, hgl⟩
  refine ((evFn_ok hc k).1 f args {} w.heap.size g w cargs (fun v' _ => K v') (fun _ _ => False) hw hargs h).mono fun e w' hpost => ?_
  cases e with
  | returned c =>
    obtain ⟨v', s'', g', hK, hg', _, hv⟩ := hpost
    exact ⟨v', c, g', rfl, hK, hv, hg'.below⟩
  | panicked ch => obtain ⟨v', s'', g', c, _, hf, _⟩ := hpost; exact hf.elim
  | outgrown => exact hpost.elim

end
end Go.Ev
