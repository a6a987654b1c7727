/- Regions that draw their order: one order serves every order. -/
import Derived.Test.YtfojnphbocojfaaGreatDoorEvCall
import Derived.OrdersIn
set_option linter.all false
set_option linter.unusedVariables false
set_option linter.unusedSimpArgs false
namespace Go.Ev
open Go Go.RowKit
variable [Glob]

section
variable {X : Ctx} {region place : Nat} {env : Env} {s : St}

theorem Out.all_ofOption {α : Type} {K : α → St → Prop} {Kp : V → St → Prop} {x : Option α} (h : (Out.ofOption x s).all K Kp) : (Out.ofOption x s).all (fun v s' => K v s' ∧ s' = s) Kp := by
  cases x with
  | none => exact h
  | some a => exact ⟨h, rfl⟩

theorem shut_same {K Kp : V → St → Prop} : ∀ (x : Out V), (x.shut s).all K Kp → (x.shut s).all (fun v s' => K v s' ∧ s' = s) Kp
  | .ok v _, h => by
    unfold Out.shut at h ⊢
    split at h
    · rename_i hc; rw [if_pos hc]; exact ⟨h, rfl⟩
    · exact h.elim
  | .pan v _, h => by
    unfold Out.shut at h ⊢
    split at h
    · rename_i hc; rw [if_pos hc]; exact h
    · exact h.elim
  | .err, h => h
  | .choice n k, h => fun i hi => shut_same (k i) (h i hi)
  | .br t x y, h => ⟨fun e => shut_same x (h.1 e), fun e => shut_same y (h.2 e)⟩

theorem evOp0_quiet {op : Op} (hq : quietKind X.cfg op = true) {K Kp : V → St → Prop} (h : (evOp0 X region place env op s).all K Kp) : (evOp0 X region place env op s).all (fun v s' => K v s' ∧ s' = s) Kp := by
  unfold evOp0 at h ⊢
  simp only at h ⊢
  split at h
  · exact ⟨h, rfl⟩
  · cases op <;> simp only [quietKind, Bool.false_eq_true] at hq <;> try exact h.elim
    · exact Out.all_ofOption h
    · exact Out.all_ofOption h
    · rename_i c
      simp only at h ⊢
      split at h
      · rename_i hc; rw [hc] at hq; simp at hq
      · split at h
        · rename_i x t h1 h2
          unfold lenMapV at h ⊢
          split at h
          · exact ⟨h, rfl⟩
          · split at h
            · exact ⟨h, rfl⟩
            · exact h.elim
          · exact h.elim
        · exact h.elim
      · rename_i f hc
        rw [hc] at hq
        cases f <;> simp only [Bool.false_eq_true] at hq
        rename_i f
        simp only [evalO, callFn] at h ⊢
        unfold callV at h ⊢
        rw [if_pos hq] at h ⊢
        split at h
        · rename_i hcl; rw [if_pos hcl]; exact shut_same _ h
        · exact h.elim
      · exact h.elim

/-! ### what an operation looks at -/
theorem evPure_congr {P : Program} {ρ ρ' : Operand → V} {op : Op} (h : ∀ x ∈ op.operands, ρ x = ρ' x) : evPure P ρ op = evPure P ρ' op := by
  have pairs : ∀ ps : Array (Nat × Operand), (∀ x ∈ (ps.toList.map (·.2)).toArray, ρ x = ρ' x) →
      (ps.toList.map fun p => (p.1, ρ p.2)) = (ps.toList.map fun p => (p.1, ρ' p.2)) := fun ps hp =>
    List.map_congr_left fun p hm => by
      simp only [hp p.2 (by simp only [List.mem_toArray, List.mem_map]; exact ⟨p, hm, rfl⟩)]
  cases op <;> simp only [Op.operands] at h <;> simp only [evPure]
  case build t ps => rw [pairs ps h]
  case makeFunc fn first captured =>
    rw [List.map_congr_left (l := first.toList) fun x hx => h x (by simp at hx; simp [hx]), List.map_congr_left (l := captured.toList) fun x hx => h x (by simp at hx; simp [hx])]
  case call c =>
    rw [List.map_congr_left (l := c.args.toList) fun x hx => h x (by simp at hx; simp [Call.operands, hx])]
  case slice t x lo hi mx => cases lo <;> cases hi <;> cases mx <;> simp_all
  all_goals (first | rfl | (simp_all; done))

theorem evOp0_congr {env' : Env} {op : Op} (h : ∀ x ∈ op.operands, evalO env x = evalO env' x) : evOp0 X region place env op s = evOp0 X region place env' op s := by
  unfold evOp0
  simp only [evPure_congr (P := X.P) h]
  cases hp : evPure X.P (evalO env') op with
  | some v => rfl
  | none =>
    cases op <;> simp only [Op.operands] at h <;> try rfl
    case makeMap t r => cases r <;> rfl
    case box t x => simp only [h x (by simp)]
    case load t x => simp only [h x (by simp)]
    case store t x y => simp only [h x (by simp), h y (by simp)]
    case convert a b x => simp only [h x (by simp)]
    case makeSlice t x y => simp only [h x (by simp), h y (by simp)]
    case buildSlice t n ps =>
      have : (ps.toList.map fun p => (p.1, evalO env p.2)) = (ps.toList.map fun p => (p.1, evalO env' p.2)) :=
        List.map_congr_left fun p hm => by
          simp only [h p.2 (by simp only [List.mem_toArray, List.mem_map]; exact ⟨p, hm, rfl⟩)]
      simp only [this]
    case lookup t x y b => simp only [h x (by simp), h y (by simp)]
    case mapUpdate t x y z => simp only [h x (by simp), h y (by simp), h z (by simp)]
    case insert t x y z => simp only [h x (by simp), h y (by simp), h z (by simp)]
    case range t x => simp only [h x (by simp)]
    case next x b => simp only [h x (by simp)]
    case entry x => simp only [evMore, h x (by simp)]
    case panic x => simp only [h x (by simp)]
    case call c =>
      have hargs : c.args.toList.map (evalO env) = c.args.toList.map (evalO env') := List.map_congr_left fun x hx => h x (by simp at hx; simp [Call.operands, hx])
      cases hc : c.callee with
      | value f => have hf : evalO env f = evalO env' f := h f (by simp [Call.operands, hc]); simp only [hc, hf, hargs]
      | invoke r m => simp only [hc]
      | builtin b =>
        cases b <;> simp only [hc]
        · split
          · rename_i x y t u h1 h2 h3
            have e : ∀ z ∈ c.args.toList, evalO env z = evalO env' z := fun z hz => h z (by simp at hz; simp [Call.operands, hz])
            rw [e x (by simp [h1]), e y (by simp [h1])]
          · rfl
        · split
          · rename_i x t h1 h2
            have e : ∀ z ∈ c.args.toList, evalO env z = evalO env' z := fun z hz => h z (by simp at hz; simp [Call.operands, hz])
            rw [e x (by simp [h1])]
          · rfl

/-! ### every order -/
theorem wantedE_ok {g : Gh} {a : Act} {env : Env} {ops : Array Oper} {o : Oper} {b : Bool} (he : VRs g env a.tmps) (h : wantedE env ops o = some b) : Region.wanted o (yielded ops a.tmps) = b := by
  unfold wantedE at h
  unfold Region.wanted
  split at h
  · rename_i hg
    simp only [Option.some.injEq] at h
    rw [hg, ← h]
  · rename_i j want hg
    rw [hg]
    split at h
    · rename_i d hd
      split at h
      · rename_i b' hb
        simp only [Option.some.injEq] at h
        have hlt : d < env.length := by
          rcases Nat.lt_or_ge d env.length with h' | h'
          · exact h'
          · rw [List.getElem?_eq_none h'] at hb; simp at hb
        have hlt' : d < a.tmps.size := he.1 ▸ hlt
        have hr := he.2 d _ _ hb (Array.getElem?_eq_getElem hlt')
        generalize hv : a.tmps[d] = v at hr
        cases hr
        have : a.tmps[d]? = some (.bool b') := by rw [Array.getElem?_eq_getElem hlt', hv]
        simp only [yielded, hd, Option.bind_some, this]
        rw [← h]; cases b' <;> cases want <;> rfl
      · rename_i hb
        simp only [Option.some.injEq] at h
        have hlt : d < env.length := by
          rcases Nat.lt_or_ge d env.length with h' | h'
          · exact h'
          · rw [List.getElem?_eq_none h'] at hb; simp at hb
        have hlt' : d < a.tmps.size := he.1 ▸ hlt
        have hr := he.2 d _ _ hb (Array.getElem?_eq_getElem hlt')
        generalize hv : a.tmps[d] = v at hr
        cases hr
        have : ∃ cs, a.tmps[d]? = some (.tuple cs) := ⟨_, by rw [Array.getElem?_eq_getElem hlt', hv]⟩
        obtain ⟨cs, this⟩ := this
        simp only [yielded, hd, Option.bind_some, this]
        rw [← h]; rfl
      · simp at h
    · simp at h

theorem knowG_rel {g : Gh} {env : Env} {tmps : Array Value} {ops : Array Oper} {o : Oper} {t : Bool} (he : VRs g env tmps) (h : wantedE env ops o = some t) : VRs g (knowG env ops o t) tmps := by
  unfold knowG
  split
  · rename_i j want hg
    split
    · rename_i d hd
      split
      · rename_i b hb
        unfold wantedE at h
        rw [hg] at h
        simp only [hd, hb, Option.some.injEq] at h
        refine ⟨by simpa using he.1, fun i x y hx hy => ?_⟩
        rw [List.getElem?_set] at hx
        by_cases e : d = i
        · subst e
          simp only [if_true] at hx
          split at hx
          · simp only [Option.some.injEq] at hx
            subst hx
            have := he.2 d _ _ hb hy
            cases this
            subst h
            have e : (cond want b (!b) == want) = b := by cases b <;> cases want <;> rfl
            rw [e]; exact .bool b
          · simp at hx
        · rw [if_neg e] at hx
          exact he.2 i x y hx hy
      · exact he
    · exact he
  · exact he

theorem knowC_rel {g : Gh} {env : Env} {a : Act} {c : Operand} {t : Bool} (he : VRs g env a.tmps) (h : evalO env c = .bool t) : VRs g (knowC env c t) a.tmps := by
  unfold knowC
  split
  · rename_i d
    refine ⟨by simpa using he.1, fun i x y hx hy => ?_⟩
    rw [List.getElem?_set] at hx
    by_cases e : d = i
    · subst e
      simp only [if_true] at hx
      split at hx
      · rename_i hlt
        simp only [Option.some.injEq] at hx
        subst hx
        simp only [evalO, List.getD_eq_getElem?_getD] at h
        have hb : env[d]? = some (.bool t) := by
          rw [List.getElem?_eq_getElem hlt] at h ⊢
          simpa using h
        exact he.2 d _ _ hb hy
      · simp at hx
    · rw [if_neg e] at hx
      exact he.2 i x y hx hy
  · exact he

def anyOp (X : Ctx) (region : Nat) (ops : Array Oper) (Kp : V → St → Prop) (i : Nat) (K : Env → St → Prop) (env : Env) (s : St) : Prop :=
  match ops[i]? with
  | none => False
  | some o =>
    match wantedE env ops o with
    | none => False
    | some false => K (putE env o.dst (.tup [])) s
    | some true => (evOp0 X region i env o.op s).all (fun v s' => K (putE env o.dst v) s') Kp

def allAny (X : Ctx) (region : Nat) (ops : Array Oper) (K : Env → St → Prop) (Kp : V → St → Prop) : Nat → Array Bool → Env → St → Prop
  | 0, listed, env, s => Region.ready .any ops listed = [] ∧ K env s
  | f + 1, listed, env, s => Region.ready .any ops listed ≠ [] ∧
    ∀ i ∈ Region.ready .any ops listed, anyOp X region ops Kp i (allAny X region ops K Kp f (listed.setIfInBounds i true)) env s

theorem wpAny_of_all {ops : Array Oper} {base : Nat} (hX : CtxOk X) (K : Env → St → Prop) (Kp : V → St → Prop) (Q : Exit → Act → World → Prop) : ∀ (f : Nat) (listed : Array Bool) (env : Env) (s : St) (g : Gh) (w : World) (a : Act),
    WR base g s w → VRs g env a.tmps → allAny X region ops K Kp f listed env s →
    (∀ env' s' g' w' a', K env' s' → Grow base g g' w w' → WR base g' s' w' → VRs g' env' a'.tmps → a'.defers = a.defers → Q .normal a' w') →
    (∀ v s' g' w' c' a', Kp v s' → Grow base g g' w w' → WR base g' s' w' → VR g' v c' → a'.defers = a.defers → Q (.panic [{ v := c', recovered := false }]) a' w') →
    ∀ ro, wpAnyIn (FR ro) 0 X.P .any ops Q f listed a w
  | 0, listed, env, s, g, w, a, hw, he, h, hn, hp => fun ro => ⟨h.1, hn env s g w a h.2 (.refl _ _ _) hw he rfl⟩
  | f + 1, listed, env, s, g, w, a, hw, he, h, hn, hp => by
    intro ro
    refine ⟨fun e => absurd e h.1, fun i hi => ?_⟩
    have h1 := h.2 i hi
    unfold anyOp at h1
    unfold wpOpIn
    cases ho : ops[i]? with
    | none => rw [ho] at h1; exact h1.elim
    | some o =>
      rw [ho] at h1
      simp only at h1 ⊢
      split at h1
      · exact h1.elim
      · rename_i hwant
        rw [if_neg (by rw [wantedE_ok he hwant]; simp)]
        refine ⟨fun _ _ => trivial, ?_⟩
        refine wpAny_of_all hX K Kp Q f _ _ s g w (a.put o.dst undef) hw (putE_rel he o.dst (.undef _)) h1 (fun env' s'' g'' w'' a' hK' hg' hw'' he' hd => ?_) (fun v s'' g'' w'' c' a' hK' hg' hw'' hv' hd => ?_) ro
        · exact hn env' s'' g'' w'' a' hK' hg' hw'' he' (by rw [hd, Go.Ev.put_defers])
        · exact hp v s'' g'' w'' c' a' hK' hg' hw'' hv' (by rw [hd, Go.Ev.put_defers])
      · rename_i hwant
        rw [if_pos (wantedE_ok he hwant)]
        refine evOp0_ok hX hw he _ _ _ Q h1 (fun v s' g' w' c hK hg hw' hv => ?_) (fun v s' g' w' c hK hg hw' hv => hp v s' g' w' c a hK hg hw' hv rfl) ro
        refine wpAny_of_all hX K Kp Q f _ _ s' g' w' (a.put o.dst c) hw' (putE_rel (he.mono hg.sub) o.dst hv) hK (fun env' s'' g'' w'' a' hK' hg' hw'' he' hd => ?_) (fun v s'' g'' w'' c' a' hK' hg' hw'' hv' hd => ?_) ro
        · exact hn env' s'' g'' w'' a' hK' (hg.trans hg') hw'' he' (by rw [hd, Go.Ev.put_defers])
        · exact hp v s'' g'' w'' c' a' hK' (hg.trans hg') hw'' hv' (by rw [hd, Go.Ev.put_defers])

/-! ### moving an operation to the front -/
section
variable {ops : Array Oper}

theorem evalO_put {env : Env} {dst : Option Tmp} {v : V} {x : Operand} (h : ∀ d, dst = some d → x ≠ .tmp d) : evalO (putE env dst v) x = evalO env x := by
  cases dst with
  | none => rfl
  | some d =>
    cases x with
    | tmp t =>
      have hne : d ≠ t := fun e => h d rfl (e ▸ rfl)
      simp [evalO, putE, List.getD_eq_getElem?_getD, List.getElem?_set_ne hne]
    | _ => rfl

theorem evalO_apart {o : Oper} {env : Env} {dst : Option Tmp} {v : V} (h : ∀ d, dst = some d → d ∉ o.looksAt ops) : ∀ x ∈ o.op.operands, evalO (putE env dst v) x = evalO env x :=
  fun x hx => evalO_put fun d hd hxd => h d hd (by
    subst hxd
    exact List.mem_append_left _ (List.mem_filterMap.2 ⟨.tmp d, by simpa using hx, rfl⟩))

theorem wantedE_put {o : Oper} {env : Env} {dst : Option Tmp} {v : V} (h : ∀ d, dst = some d → d ∉ o.looksAt ops) : wantedE (putE env dst v) ops o = wantedE env ops o := by
  cases dst with
  | none => rfl
  | some d =>
    unfold wantedE
    cases hg : o.guard with
    | none => rfl
    | some gw =>
      obtain ⟨g, want⟩ := gw
      simp only
      cases ht : (ops[g]?).bind (·.dst) with
      | none => rfl
      | some t =>
        have hne : d ≠ t := fun e => h d rfl (by subst e; simp [Oper.looksAt, hg, ht])
        simp only [putE, List.getElem?_set_ne hne]

theorem putE_comm (env : Env) {x y : Option Tmp} (v u : V) (h : ∀ d, x = some d → y ≠ some d) : putE (putE env x v) y u = putE (putE env y u) x v := by
  cases x with
  | none => rfl
  | some d =>
    cases y with
    | none => rfl
    | some e =>
      have hne : d ≠ e := fun he => h d rfl (he ▸ rfl)
      simp only [putE]
      exact List.set_comm _ _ hne

/-- Operation o, number i, comes to v here; strictly: wherever it comes up. -/
def Yld (X : Ctx) (region : Nat) (ops : Array Oper) (strict : Bool) (i : Nat) (o : Oper) (env : Env) (s : St) (v : V) : Prop :=
  (wantedE env ops o = some false ∧ v = .tup []) ∨
  (wantedE env ops o = some true ∧ if strict then evPure X.P (evalO env) o.op = some v else evOp0 X region i env o.op s = .ok v s)

theorem Yld.put {strict : Bool} {i : Nat} {o o' : Oper} {v u : V} {s' : St} (h : Yld X region ops strict i o env s v) (hap : ∀ d, o'.dst = some d → d ∉ o.looksAt ops) (hs : strict = true ∨ s' = s) :
    Yld X region ops strict i o (putE env o'.dst u) s' v := by
  unfold Yld at *
  rw [wantedE_put hap]
  refine h.imp id fun ⟨h1, h2⟩ => ⟨h1, ?_⟩
  cases strict with
  | true => simp only [if_true] at h2 ⊢; rw [evPure_congr (evalO_apart hap)]; exact h2
  | false =>
    simp only [Bool.false_eq_true, if_false] at h2 ⊢
    rw [evOp0_congr (evalO_apart hap)]
    rcases hs with hs | hs
    · simp at hs
    · rw [hs]; exact h2

theorem Yld.any {strict : Bool} {i : Nat} {o : Oper} {v : V} {K : Env → St → Prop} {Kp : V → St → Prop} (ho : ops[i]? = some o) (h : Yld X region ops strict i o env s v) (hK : K (putE env o.dst v) s) : anyOp X region ops Kp i K env s := by
  unfold anyOp
  rw [ho]
  simp only
  rcases h with ⟨h1, h2⟩ | ⟨h1, h2⟩
  · rw [h1, ← h2]; exact hK
  · rw [h1]
    simp only
    cases strict with
    | true =>
      simp only [if_true] at h2
      unfold evOp0
      simp only [h2]
      exact hK
    | false =>
      simp only [Bool.false_eq_true, if_false] at h2
      rw [h2]; exact hK

theorem getD_set_true {a : Array Bool} {i k : Nat} (h : (a.setIfInBounds i true).getD k false = true) : k = i ∨ a.getD k false = true := by
  by_cases e : i = k
  · exact .inl e.symm
  · right; simpa [Array.getElem?_setIfInBounds_ne e] using h

theorem getD_set_ne' {a : Array Bool} {i k : Nat} (d : Bool) (h : i ≠ k) : (a.setIfInBounds i true).getD k d = a.getD k d := by
  simp [Array.getElem?_setIfInBounds_ne h]

theorem mem_ready' {ops : Array Oper} {listed : Array Bool} {i : Nat} : i ∈ Region.ready .any ops listed ↔ listed.getD i true = false ∧ ∃ o, ops[i]? = some o ∧ ∀ e ∈ o.after, Region.binds .any e = true → listed.getD e.on false = true := by
  unfold Region.ready
  simp only [List.mem_filter, List.mem_range, Bool.and_eq_true, Bool.not_eq_true']
  constructor
  · rintro ⟨hi, h1, h2⟩
    refine ⟨h1, ops[i], by simp [hi], fun e he hb => ?_⟩
    simp only [Array.getElem?_eq_getElem hi, Option.map_some, Option.getD_some] at h2
    have := Array.all_eq_true_iff_forall_mem.1 h2 e he
    simpa [hb] using this
  · rintro ⟨h1, o, ho, h2⟩
    have hi : i < ops.size := (Array.getElem?_eq_some_iff.1 ho).1
    refine ⟨hi, h1, ?_⟩
    rw [ho]
    simp only [Option.map_some, Option.getD_some]
    refine Array.all_eq_true_iff_forall_mem.2 fun e he => ?_
    cases hb : Region.binds .any e with
    | false => simp
    | true => simp only [Bool.not_true, Bool.false_or]; exact h2 e he hb

theorem ready_set {ops : Array Oper} {listed : Array Bool} {i j : Nat} (h : j ∈ Region.ready .any ops listed) (hne : j ≠ i) : j ∈ Region.ready .any ops (listed.setIfInBounds i true) := by
  obtain ⟨h1, o, ho, h2⟩ := mem_ready'.1 h
  refine mem_ready'.2 ⟨by rw [getD_set_ne' _ (Ne.symm hne)]; exact h1, o, ho, fun e he hb => ?_⟩
  have := h2 e he hb
  by_cases e' : i = e.on
  · have hlt : e.on < listed.size := by
      rcases Nat.lt_or_ge e.on listed.size with h | h
      · exact h
      · simp [Array.getElem?_eq_none h] at this
    simp [e', hlt]
  · rw [getD_set_ne' _ e']; exact this

theorem allAny_first {K : Env → St → Prop} {Kp : V → St → Prop} {strict : Bool} {i : Nat} {oi : Oper} {v : V} {M : Array Bool} (ho : ops[i]? = some oi) (hM : M.size = ops.size) (hMi : M.getD i true = false)
    (hMr : ∀ j ∈ Region.ready .any ops M, j = i) : ∀ (f : Nat) (listed : Array Bool) (env : Env) (s : St), listed.size = ops.size →
      (∀ j, listed.getD j false = true → M.getD j false = true) →
      (∀ j oj, ops[j]? = some oj → M.getD j false = true → listed.getD j true = false → oi.apart ops oj = true ∧ (strict = true ∨ quietKind X.cfg oj.op = true)) →
      i ∈ Region.ready .any ops listed → Yld X region ops strict i oi env s v →
      allAny X region ops K Kp f (listed.setIfInBounds i true) (putE env oi.dst v) s → allAny X region ops K Kp (f + 1) listed env s := by
  intro f
  induction f with
  | zero =>
    intro listed env s hl hlm hc hr hy H
    refine ⟨fun e => (by rw [e] at hr; cases hr), fun j hj => ?_⟩
    by_cases hji : j = i
    · subst hji; exact hy.any ho H
    · have := ready_set hj hji
      rw [H.1] at this
      cases this
  | succ f ih =>
    intro listed env s hl hlm hc hr hy H
    refine ⟨fun e => (by rw [e] at hr; cases hr), fun j hj => ?_⟩
    by_cases hji : j = i
    · subst hji; exact hy.any ho H
    · have h1 := H.2 j (ready_set hj hji)
      obtain ⟨hjun, oj, hoj, hall⟩ := mem_ready'.1 hj
      have hjlt : j < ops.size := (Array.getElem?_eq_some_iff.1 hoj).1
      have hjM : M.getD j false = true := by
        cases hm : M.getD j true with
        | false => exact absurd (hMr j (mem_ready'.2 ⟨hm, oj, hoj, fun e he hb => hlm _ (hall e he hb)⟩)) hji
        | true => have : j < M.size := by omega
                  simpa [this] using hm
      obtain ⟨hap, hq⟩ := hc j oj hoj hjM hjun
      obtain ⟨a1, a2, a3⟩ := Oper.apart_spec hap
      have next : ∀ u s', (strict = true ∨ s' = s) → allAny X region ops K Kp f ((listed.setIfInBounds i true).setIfInBounds j true) (putE (putE env oi.dst v) oj.dst u) s' →
          allAny X region ops K Kp (f + 1) (listed.setIfInBounds j true) (putE env oj.dst u) s' := by
        intro u s' hs h
        refine ih (listed.setIfInBounds j true) (putE env oj.dst u) s' (by simpa using hl) (fun k hk => ?_) (fun k ok hok hkM hun => ?_) (ready_set hr (Ne.symm hji)) (hy.put a3 hs) ?_
        · rcases getD_set_true hk with e | e
          · rw [e]; exact hjM
          · exact hlm k e
        · refine hc k ok hok hkM ?_
          by_cases e : j = k
          · subst e; exact hjun
          · rw [getD_set_ne' _ e] at hun; exact hun
        · rw [Array.setIfInBounds_comm _ _ hji, ← putE_comm env v u a2]
          exact h
      unfold anyOp at h1 ⊢
      rw [hoj] at h1 ⊢
      simp only at h1 ⊢
      rw [wantedE_put a1] at h1
      split at h1
      · exact h1.elim
      · exact next _ s (.inr rfl) h1
      · rw [evOp0_congr (evalO_apart a1)] at h1
        rcases hq with hq | hq
        · exact Out.all_mono (fun u s' h => next u s' (.inl hq) h) (fun _ _ h => h) _ h1
        · exact Out.all_mono (fun u s' h => next u s' (.inr h.2) h.1) (fun _ _ h => h) _ (evOp0_quiet hq h1)

/-! ### a schedule -/
theorem allAny_ahead {K : Env → St → Prop} {Kp : V → St → Prop} {strict : Bool} {i : Nat} {oi : Oper} {v : V} {M listed : Array Bool} {f : Nat} (ho : ops[i]? = some oi) (hB : aheadB X.cfg ops listed M strict i = true)
    (hl : listed.size = ops.size) (hr : i ∈ Region.ready .any ops listed) (hy : Yld X region ops strict i oi env s v)
    (h : allAny X region ops K Kp f (listed.setIfInBounds i true) (putE env oi.dst v) s) : allAny X region ops K Kp (f + 1) listed env s := by
  simp only [aheadB, ho, Bool.and_eq_true, beq_iff_eq, Bool.not_eq_true', List.all_eq_true, List.mem_range, Bool.or_eq_true] at hB
  obtain ⟨⟨⟨⟨h1, h2⟩, h3⟩, h4⟩, h5⟩ := hB
  refine allAny_first ho h1 h2 h3 f listed env s hl (fun j hj => ?_) (fun j oj hoj hM hun => ?_) hr hy h
  · have hjl : j < ops.size := by
      rcases Nat.lt_or_ge j listed.size with h | h
      · omega
      · simp [Array.getElem?_eq_none h] at hj
    rcases h4 j hjl with e | e
    · rw [e] at hj; cases hj
    · exact e
  · have hjl : j < ops.size := (Array.getElem?_eq_some_iff.1 hoj).1
    have := h5 j hjl
    rw [hoj] at this
    simp only [hM, hun, Bool.or_eq_true, Bool.and_eq_true, Bool.not_true, Bool.false_eq_true, false_or] at this
    exact this

theorem sched_ok {K : Env → St → Prop} {Kp : V → St → Prop} : ∀ (l : List (Nat × Nat)) (listed : Array Bool) (env : Env) (s : St), listed.size = ops.size → schedB X.cfg ops l listed = true →
    (evSched X region ops l env s).all K Kp → allAny X region ops K Kp l.length listed env s
  | [], listed, env, s, _, hB, h => ⟨by simpa [schedB] using hB, h⟩
  | (i, m) :: r, listed, env, s, hl, hB, h => by
    simp only [schedB, Bool.and_eq_true] at hB
    obtain ⟨⟨h1, h2⟩, h3⟩ := hB
    have hr : i ∈ Region.ready .any ops listed := by simpa using h1
    unfold evSched at h
    cases ho : ops[i]? with
    | none => rw [ho] at h; exact h.elim
    | some o =>
      rw [ho] at h
      simp only at h
      have go : ∀ strict v s', aheadB X.cfg ops listed (maxOut ops i ops.size listed) strict i = true → s' = s → Yld X region ops strict i o env s v → (evSched X region ops r (putE env o.dst v) s').all K Kp →
          allAny X region ops K Kp (r.length + 1) listed env s := by
        intro strict v s' hB hs hy hk
        subst hs
        exact allAny_ahead ho hB hl hr hy (sched_ok r _ _ _ (by simpa using hl) h3 hk)
      have alone : (Region.ready .any ops listed).all (· == i) = true → anyOp X region ops Kp i (allAny X region ops K Kp r.length (listed.setIfInBounds i true)) env s →
          allAny X region ops K Kp (r.length + 1) listed env s := by
        intro ha h
        refine ⟨fun e => (by rw [e] at hr; cases hr), fun j hj => ?_⟩
        have : j = i := by simpa using List.all_eq_true.1 ha j hj
        rw [this]; exact h
      have step : ∀ env' s', (evSched X region ops r env' s').all K Kp → allAny X region ops K Kp r.length (listed.setIfInBounds i true) env' s' :=
        fun env' s' hk => sched_ok r _ env' s' (by simpa using hl) h3 hk
      split at h
      · exact h.elim
      · rename_i hw
        split at h2
        · exact go _ (.tup []) s h2 rfl (.inl ⟨hw, rfl⟩) h
        · simp only [Bool.and_eq_true] at h2
          exact go _ (.tup []) s h2.1 rfl (.inl ⟨hw, rfl⟩) h
        · refine alone h2 ?_
          unfold anyOp
          rw [ho]; simp only; rw [hw]
          exact step _ _ h
      · rename_i hw
        split at h
        · split at h
          · rename_i v hv
            exact go true v s h2 rfl (.inr ⟨hw, by simpa using hv⟩) h
          · exact h.elim
        · simp only [Bool.and_eq_true, quietAt, ho] at h2
          have plain : ∀ v s', evOp0 X region i env o.op s = .ok v s' → (evSched X region ops r (putE env o.dst v) s).all K Kp → allAny X region ops K Kp (r.length + 1) listed env s := by
            intro v s' hv hk
            have hq := evOp0_quiet (X := X) (region := region) (place := i) (env := env) (s := s) h2.2 (K := fun _ _ => True) (Kp := fun _ _ => True) (by rw [hv]; trivial)
            rw [hv] at hq
            have hs : s' = s := hq.2
            subst hs
            exact go false v s' h2.1 rfl (.inr ⟨hw, by simpa using hv⟩) hk
          split at h
          · rename_i c v hrd
            have hrd' : symRead X.P env o.op s = some (c, v) := by
              split at hrd
              · exact hrd
              · simp at hrd
            cases c with
            | true => exact plain v s (symRead_eq hrd' rfl) (h.1 rfl)
            | false => exact (h.2 rfl).elim
          · split at h
            · rename_i v s' hv
              exact plain v s' hv h
            · exact h.elim
        · rename_i h0 h1'
          have h2' : (Region.ready .any ops listed).all (· == i) = true := by
            revert h2
            split
            · exact absurd rfl h0
            · exact absurd rfl h1'
            · exact id
          refine alone h2' ?_
          unfold anyOp
          rw [ho]; simp only; rw [hw]
          split at h
          · rename_i c v hrd
            have hrd' : symRead X.P env o.op s = some (c, v) := by
              split at hrd
              · exact hrd
              · simp at hrd
            cases c with
            | true =>
              simp only [symRead_eq hrd' rfl]
              exact step _ _ (h.1 rfl)
            | false => exact (h.2 rfl).elim
          · split at h
            · rename_i c s' hrd
              have hrd' : symStore X.P env o.op s = some (c, s') := by
                split at hrd
                · exact hrd
                · simp at hrd
              cases c with
              | true =>
                simp only [symStore_eq hrd' rfl]
                exact step _ _ (h.1 rfl)
              | false => exact (h.2 rfl).elim
            · exact Out.all_mono (fun _ _ h => step _ _ h) (fun _ _ h => h) _ (Out.all_bind _ h)

/-- A schedule, if there is one. -/
def mkSched (cfg : Cfg) (ops : Array Oper) : Nat → Array Bool → List (Nat × Nat)
  | 0, _ => []
  | n + 1, listed =>
    let rs := Region.ready .any ops listed
    match rs.find? (fun i => aheadB cfg ops listed (maxOut ops i ops.size listed) false i && quietAt cfg ops i) with
    | some i => (i, 1) :: mkSched cfg ops n (listed.setIfInBounds i true)
    | none =>
      match rs with
      | [i] => (i, 2) :: mkSched cfg ops n (listed.setIfInBounds i true)
      | _ =>
        match rs.find? (fun i => aheadB cfg ops listed (maxOut ops i ops.size listed) true i) with
        | some i => (i, 0) :: mkSched cfg ops n (listed.setIfInBounds i true)
        | none => []
end
end
end Go.Ev
