/- Contracts for loops: of an environment only some slots are kept. -/
import Derived.Test.YtfojnphbocojfaaGreatDoorEvSound
set_option linter.all false
set_option linter.unusedVariables false
set_option linter.unusedSimpArgs false
namespace Go.Ev
open Go Go.RowKit
variable [Glob]

/-- The value of a slot. -/
def slotOf : List (Nat × V) → Nat → V
  | [], _ => .any
  | (j, v) :: r, i => if Nat.beq j i then v else slotOf r i

/-- An environment of which only some slots are known. -/
def mkEnvFrom (vs : List (Nat × V)) : Nat → Nat → Env
  | _, 0 => []
  | i, n + 1 => slotOf vs i :: mkEnvFrom vs (i + 1) n

def mkEnv (n : Nat) (vs : List (Nat × V)) : Env := mkEnvFrom vs 0 n

def deadFrom (live : List Nat) : Nat → Nat → List Nat
  | _, 0 => []
  | i, n + 1 => if live.contains i then deadFrom live (i + 1) n else i :: deadFrom live (i + 1) n

/-- All slots but the live ones. -/
def deadOf (n : Nat) (live : List Nat) : List Nat := deadFrom live 0 n

theorem mkEnvFrom_get (vs : List (Nat × V)) : ∀ (n i k : Nat), (mkEnvFrom vs i n)[k]? = if k < n then some (slotOf vs (i + k)) else none
  | 0, i, k => by simp [mkEnvFrom]
  | n + 1, i, k => by
    cases k with
    | zero => simp [mkEnvFrom]
    | succ k =>
      simp only [mkEnvFrom, List.getElem?_cons_succ, mkEnvFrom_get vs n (i + 1) k, Nat.add_lt_add_iff_right, Nat.add_assoc, Nat.add_comm 1 k]

theorem mkEnv_get (vs : List (Nat × V)) (n k : Nat) : (mkEnv n vs)[k]? = if k < n then some (slotOf vs k) else none := by
  simp [mkEnv, mkEnvFrom_get]

theorem clear_get : ∀ (dead : List Nat) (env : Env) (k : Nat), (clear env dead)[k]? = if k ∈ dead ∧ k < env.length then some .any else env[k]?
  | [], env, k => by simp [clear]
  | d :: r, env, k => by
    simp only [clear, clear_get r, List.length_set, List.getElem?_set, List.mem_cons]
    by_cases h : k ∈ r
    · by_cases hl : k < env.length
      · simp [h, hl]
      · have hn : env[k]? = none := List.getElem?_eq_none (by omega)
        simp only [hl, and_false, if_false, hn]
        split
        · rename_i e; subst e; rw [if_neg hl]
        · rfl
    · by_cases e : d = k
      · subst e
        by_cases hl : d < env.length
        · simp [h, hl]
        · have hn : env[d]? = none := List.getElem?_eq_none (by omega)
          simp [h, hl, hn]
      · have e' : ¬ k = d := fun h' => e h'.symm
        simp [h, e, e']

theorem mem_deadFrom (live : List Nat) : ∀ (n i k : Nat), k ∈ deadFrom live i n ↔ i ≤ k ∧ k < i + n ∧ k ∉ live
  | 0, i, k => by simp [deadFrom]; omega
  | n + 1, i, k => by
    simp only [deadFrom]
    split
    · rename_i h
      rw [mem_deadFrom live n (i + 1) k]
      constructor
      · rintro ⟨a, b, c⟩; exact ⟨by omega, by omega, c⟩
      · rintro ⟨a, b, c⟩
        refine ⟨?_, by omega, c⟩
        rcases Nat.lt_or_ge i k with h' | h'
        · omega
        · have : k = i := by omega
          subst this
          exact absurd (by simpa using h) c
    · rename_i h
      simp only [List.mem_cons, mem_deadFrom live n (i + 1) k]
      constructor
      · rintro (rfl | ⟨a, b, c⟩)
        · exact ⟨Nat.le_refl _, by omega, by simpa using h⟩
        · exact ⟨by omega, by omega, c⟩
      · rintro ⟨a, b, c⟩
        rcases Nat.lt_or_ge i k with h' | h'
        · exact .inr ⟨by omega, by omega, c⟩
        · exact .inl (by omega)

/-- What the live slots hold. -/
def liveOf (live : List Nat) (env : Env) : List V := live.map fun i => env.getD i .any

theorem slotOf_zip (env : Env) : ∀ (live : List Nat) (k : Nat), slotOf (live.zip (liveOf live env)) k = if k ∈ live then env.getD k .any else .any
  | [], k => by simp [liveOf, slotOf]
  | j :: r, k => by
    have ih := slotOf_zip env r k
    simp only [liveOf, List.map_cons, List.zip_cons_cons, slotOf] at ih ⊢
    by_cases h : Nat.beq j k = true
    · have e : j = k := Nat.eq_of_beq_eq_true h
      subst e
      simp
    · have e : j ≠ k := fun e => h (by subst e; simp)
      have e' : ¬ k = j := fun h' => e h'.symm
      rw [if_neg h, ih]
      simp [e']

theorem clear_live {env : Env} {n : Nat} (live : List Nat) (h : env.length = n) : clear env (deadOf n live) = mkEnv n (live.zip (liveOf live env)) := by
  subst h
  apply List.ext_getElem?
  intro k
  rw [clear_get, mkEnv_get, slotOf_zip, deadOf]
  simp only [mem_deadFrom, Nat.zero_le, true_and, Nat.zero_add]
  by_cases hk : k < env.length
  · by_cases hm : k ∈ live
    · simp [hk, hm]
    · simp [hk, hm]
  · simp [hk]

theorem weak_live {env : Env} {n : Nat} (live : List Nat) (h : env.length = n) : Weak (mkEnv n (live.zip (liveOf live env))) env := by
  refine ⟨?_, fun i x hx => ?_⟩
  · have : ∀ n i, (mkEnvFrom (live.zip (liveOf live env)) i n).length = n := by
      intro n
      induction n with
      | zero => intro i; rfl
      | succ n ih => intro i; simp [mkEnvFrom, ih]
    rw [mkEnv, this, h]
  · rw [mkEnv_get, slotOf_zip] at hx
    split at hx
    · rename_i hlt
      simp only [Option.some.injEq] at hx
      split at hx
      · right
        have hl : i < env.length := by omega
        subst hx
        simp [hl]
      · exact .inl hx.symm
    · simp at hx

/-- A round of a loop, of which only the live slots are kept. -/
def roundOut (X : Ctx) (c : Code) (n : Nat) (live : List Nat) (xs : List V) (ms : List Nat) (s : St) : Out (Ex × List V × List Nat) :=
  (evCode X c (mkEnv n (live.zip xs)) ms s).bind fun r s => if r.2.1.length = n then .ok (r.1, liveOf live r.2.1, r.2.2) s else .err

/-- A contract for a loop out of one for its live slots. -/
def loopH (n : Nat) (live : List Nat) (F : Nat → List V → St → Out (Ex × List V)) : Nat → Env → List Nat → St → Out (Ex × Env × List Nat) :=
  fun d env ms s => if env.length = n ∧ ms = [] then (F d (liveOf live env) s).bind fun r s => .ok (r.1, mkEnv n (live.zip r.2), []) s else .err

theorem bind_all {α β : Type} {K : β → St → Prop} {Kp : V → St → Prop} {f : α → St → Out β} : ∀ (x : Out α), x.all (fun a s => (f a s).all K Kp) Kp → (x.bind f).all K Kp
  | .ok a s, h => h
  | .pan v s, h => h
  | .err, h => h
  | .choice n k, h => fun i hi => bind_all (k i) (h i hi)
  | .br t x y, h => ⟨fun e => bind_all x (h.1 e), fun e => bind_all y (h.2 e)⟩

/-- Less is known of the live slots. -/
def WeakL (ys xs : List V) : Prop := ys.length = xs.length ∧ ∀ (i : Nat) (y : V), ys[i]? = some y → y = .any ∨ xs[i]? = some y

theorem WeakL.refl (xs : List V) : WeakL xs xs := ⟨rfl, fun _ _ h => .inr h⟩

theorem WeakL.nil : WeakL [] [] := .refl _

theorem WeakL.any {x : V} {ys xs : List V} (h : WeakL ys xs) : WeakL (.any :: ys) (x :: xs) := by
  refine ⟨by simp [h.1], fun i y hy => ?_⟩
  cases i with
  | zero => simp at hy; exact .inl hy.symm
  | succ i => simpa using h.2 i y (by simpa using hy)

theorem WeakL.same {x : V} {ys xs : List V} (h : WeakL ys xs) : WeakL (x :: ys) (x :: xs) := by
  refine ⟨by simp [h.1], fun i y hy => ?_⟩
  cases i with
  | zero => simp at hy; subst hy; exact .inr rfl
  | succ i => simpa using h.2 i y (by simpa using hy)

theorem slotOf_weak : ∀ (live : List Nat) (ys xs : List V), WeakL ys xs → ∀ k, slotOf (live.zip ys) k = .any ∨ slotOf (live.zip ys) k = slotOf (live.zip xs) k
  | [], ys, xs, h, k => by simp [slotOf]
  | j :: r, [], xs, h, k => by simp [slotOf]
  | j :: r, y :: ys, [], h, k => by have := h.1; simp at this
  | j :: r, y :: ys, x :: xs, h, k => by
    have ih := slotOf_weak r ys xs ⟨by have := h.1; simpa using this, fun i y hy => by simpa using h.2 (i + 1) y (by simpa using hy)⟩ k
    have h0 := h.2 0 y rfl
    simp only [List.zip_cons_cons, slotOf]
    split
    · rcases h0 with h0 | h0
      · exact .inl h0
      · simp at h0; exact .inr h0.symm
    · exact ih

theorem weak_back {n : Nat} {live : List Nat} {K : Ex × Env × List Nat → St → Prop} {r : Ex × Env × List Nat} {s' : St}
    (h : r.2.1.length = n ∧ r.2.2 = [] ∧ ∃ ys, WeakL ys (liveOf live r.2.1) ∧ (Out.ok (r.1, mkEnv n (live.zip ys), ([] : List Nat)) s').all K (fun _ _ => False)) :
    ∃ env', Weak env' r.2.1 ∧ K (r.1, env', r.2.2) s' := by
  obtain ⟨h1, h2, ys, h3, h4⟩ := h
  have hw := weak_live live h1
  refine ⟨mkEnv n (live.zip ys), ⟨?_, fun i x hx => ?_⟩, ?_⟩
  · rw [← hw.1]
    have : ∀ vs vs' n i, (mkEnvFrom vs i n).length = (mkEnvFrom vs' i n).length := by
      intro vs vs' n
      induction n with
      | zero => intro i; rfl
      | succ n ih => intro i; simp [mkEnvFrom, ih (i + 1)]
    exact this _ _ _ _
  · rw [mkEnv_get] at hx
    split at hx
    · rename_i hlt
      simp only [Option.some.injEq] at hx
      rcases slotOf_weak live ys _ h3 i with h | h
      · rw [h] at hx; exact .inl hx.symm
      · rw [h] at hx
        refine hw.2 i x ?_
        rw [mkEnv_get, if_pos hlt, hx]
    · simp at hx
  · rw [h2]
    exact h4

/-- **The rule for loops.** -/
theorem loopH_ok {X : Ctx} {c : Code} {n : Nat} {live : List Nat} {F : Nat → List V → St → Out (Ex × List V)} (μ : List V → St → Nat)
    (hdead : X.cfg.dead X.self (firstRegion c) = deadOf n live)
    (hstep : ∀ (xs : List V) (s : St) (K : Ex × List V → St → Prop) (Kp : V → St → Prop), xs.length = live.length → (F X.depth xs s).all K Kp →
      (roundOut X c n live xs [] s).all (fun r s' => r.2.2 = [] ∧ (r.1 = .norm → μ r.2.1 s' < μ xs s ∧ (F X.depth r.2.1 s').all K Kp) ∧ (r.1 ≠ .norm → ∃ ys, WeakL ys r.2.1 ∧ K (r.1, ys) s')) Kp) :
    LoopOk X c (loopH n live F X.depth) := by
  have key : ∀ (m : Nat) (xs : List V) (env : Env) (s : St) (K : Ex × List V → St → Prop) (Kp : V → St → Prop), μ xs s < m → env.length = n → liveOf live env = xs → (F X.depth xs s).all K Kp →
      (loopN (evCode X c) (deadOf n live) m env [] s).all (fun r s => r.2.1.length = n ∧ r.2.2 = [] ∧ ∃ ys, WeakL ys (liveOf live r.2.1) ∧ K (r.1, ys) s) Kp := by
    intro m
    induction m with
    | zero => intro xs env s K Kp h; omega
    | succ m ih =>
      intro xs env s K Kp hμ hn hx hF
      simp only [loopN]
      rw [clear_live live hn, hx]
      have h1 := Out.all_bind _ (hstep xs s K Kp (by rw [← hx]; simp [liveOf]) hF)
      refine bind_all _ (Out.all_mono (fun r s' h => ?_) (fun _ _ h => h) _ h1)
      obtain ⟨e, env', ms'⟩ := r
      simp only at h ⊢
      split at h
      · rename_i hlen
        obtain ⟨hms, hno, hex⟩ := h
        simp only at hms
        subst hms
        cases e with
        | norm =>
          obtain ⟨hm, hF'⟩ := hno rfl
          simp only [Out.calm, if_true]
          exact ih _ env' s' K Kp (by simp only at hm; omega) hlen rfl hF'
        | exit i => exact ⟨hlen, rfl, hex (by simp)⟩
        | ret => exact ⟨hlen, rfl, hex (by simp)⟩
      · exact h.elim
  intro env ms s K Kp h
  unfold loopH at h
  split at h
  · rename_i hn
    obtain ⟨hn, rfl⟩ := hn
    have h1 := Out.all_bind _ h
    refine ⟨μ (liveOf live env) s + 1, .inl ?_⟩
    rw [hdead]
    refine Out.all_mono (fun r s' h => ?_) (fun _ _ h => h) _ (key _ _ env s _ Kp (Nat.lt_succ_self _) hn rfl h1)
    exact weak_back h
  · exact h.elim

/-- A round of a loop that leaves no rows behind. -/
def roundCut (X : Ctx) (c : Code) (n : Nat) (live : List Nat) (xs : List V) (s : St) : Out (Ex × List V × List Nat) :=
  (evCode X c (mkEnv n (live.zip xs)) [] s).bind fun r s' =>
    if r.2.1.length = n then
      match r.1 with
      | .norm => .br (refsL s.heap.length (liveOf live r.2.1) && refsH s.heap.length (s'.heap.take s.heap.length) && r.2.2.isEmpty) (.ok (.norm, liveOf live r.2.1, []) (s'.cut s.heap.length)) .err
      | e => .ok (e, liveOf live r.2.1, r.2.2) s'
    else .err

theorem refsL_all {n : Nat} {xs : List V} (h : ∀ (i : Nat) (x : V), xs[i]? = some x → refsV n x = true) : refsL n xs = true := by
  induction xs with
  | nil => rfl
  | cons x xs ih =>
    simp only [refsL, Bool.and_eq_true]
    exact ⟨h 0 x rfl, ih fun i y hy => h (i + 1) y (by simpa using hy)⟩

theorem liveOf_get {live : List Nat} {env : Env} {i : Nat} (h : i ∈ live) : ∃ j : Nat, (liveOf live env)[j]? = some (env.getD i .any) := by
  obtain ⟨j, hj, rfl⟩ := List.getElem_of_mem h
  exact ⟨j, by simp [liveOf, hj]⟩

theorem refsL_mkEnv {n m : Nat} {live : List Nat} {env : Env} (h : refsL m (liveOf live env) = true) : refsL m (mkEnv n (live.zip (liveOf live env))) = true := by
  refine refsL_all fun i x hx => ?_
  rw [mkEnv_get, slotOf_zip] at hx
  split at hx
  · simp only [Option.some.injEq] at hx
    split at hx
    · rename_i hm
      obtain ⟨j, hj⟩ := liveOf_get (env := env) hm
      rw [← hx]
      exact refsL_get h hj
    · rw [← hx]; rfl
  · simp at hx

theorem mkEnv_length (n : Nat) (vs : List (Nat × V)) : (mkEnv n vs).length = n := by
  have : ∀ n i, (mkEnvFrom vs i n).length = n := by
    intro n
    induction n with
    | zero => intro i; rfl
    | succ n ih => intro i; simp [mkEnvFrom, ih]
  exact this n 0

theorem liveOf_mkEnv {n : Nat} {live : List Nat} {env : Env} (hn : env.length = n) : liveOf live (mkEnv n (live.zip (liveOf live env))) = liveOf live env := by
  unfold liveOf
  refine List.map_congr_left fun i hi => ?_
  have := slotOf_zip env live i
  rw [if_pos hi] at this
  unfold liveOf at this
  rw [List.getD_eq_getElem?_getD, mkEnv_get]
  by_cases h : i < n
  · rw [if_pos h, this]; rfl
  · rw [if_neg h, List.getD_eq_getElem?_getD, List.getElem?_eq_none (by omega)]

theorem loopH_cut {X : Ctx} {c : Code} {n : Nat} {live : List Nat} {F : Nat → List V → St → Out (Ex × List V)} (μ : List V → St → Nat)
    (hdead : X.cfg.dead X.self (firstRegion c) = deadOf n live)
    (hstep : ∀ (xs : List V) (s : St) (K : Ex × List V → St → Prop) (Kp : V → St → Prop), xs.length = live.length → (F X.depth xs s).all K Kp →
      (roundCut X c n live xs s).all (fun r s' => r.2.2 = [] ∧ (r.1 = .norm → μ r.2.1 s' < μ xs s ∧ (F X.depth r.2.1 s').all K Kp) ∧ (r.1 ≠ .norm → ∃ ys, WeakL ys r.2.1 ∧ K (r.1, ys) s')) Kp) :
    LoopOk X c (loopH n live F X.depth) := by
  have key : ∀ (m : Nat) (xs : List V) (env : Env) (s : St) (K : Ex × List V → St → Prop) (Kp : V → St → Prop), μ xs s < m → env.length = n → liveOf live env = xs → (F X.depth xs s).all K Kp →
      (loopC (evCode X c) (deadOf n live) m env s).all (fun r s => r.2.1.length = n ∧ r.2.2 = [] ∧ ∃ ys, WeakL ys (liveOf live r.2.1) ∧ K (r.1, ys) s) Kp := by
    intro m
    induction m with
    | zero => intro xs env s K Kp h; omega
    | succ m ih =>
      intro xs env s K Kp hμ hn hx hF
      simp only [loopC]
      rw [clear_live live hn, hx]
      have h1 := Out.all_bind _ (hstep xs s K Kp (by rw [← hx]; simp [liveOf]) hF)
      refine bind_all _ (Out.all_mono (fun r s' h => ?_) (fun _ _ h => h) _ h1)
      obtain ⟨e, env', ms'⟩ := r
      simp only at h ⊢
      split at h
      · rename_i hlen
        rw [clear_live live hlen]
        cases e with
        | norm =>
          simp only at h ⊢
          cases hc : (refsL s.heap.length (liveOf live env') && refsH s.heap.length (s'.heap.take s.heap.length) && ms'.isEmpty) with
          | false => rw [hc] at h; exact (h.2 rfl).elim
          | true =>
            rw [hc] at h
            obtain ⟨_, hno, _⟩ := h.1 rfl
            obtain ⟨hm, hF'⟩ := hno rfl
            simp only [Bool.and_eq_true] at hc
            have hc' : (refsL s.heap.length (mkEnv n (live.zip (liveOf live env'))) && refsH s.heap.length (s'.heap.take s.heap.length) && ms'.isEmpty) = true := by
              simp only [Bool.and_eq_true]; exact ⟨⟨refsL_mkEnv hc.1.1, hc.1.2⟩, hc.2⟩
            refine ⟨fun _ => ?_, fun h => by rw [hc'] at h; simp at h⟩
            exact ih (liveOf live env') _ _ K Kp (by simp only at hm; omega) (mkEnv_length _ _) (liveOf_mkEnv hlen) hF'
        | exit i =>
          obtain ⟨hms, _, hex⟩ := h
          exact ⟨hlen, hms, hex (by simp)⟩
        | ret =>
          obtain ⟨hms, _, hex⟩ := h
          exact ⟨hlen, hms, hex (by simp)⟩
      · exact h.elim
  intro env ms s K Kp h
  unfold loopH at h
  split at h
  · rename_i hn
    obtain ⟨hn, rfl⟩ := hn
    have h1 := Out.all_bind _ h
    refine ⟨μ (liveOf live env) s + 1, .inr ⟨rfl, ?_⟩⟩
    rw [hdead]
    refine Out.all_mono (fun r s' h => ?_) (fun _ _ h => h) _ (key _ _ env s _ Kp (Nat.lt_succ_self _) hn rfl h1)
    exact weak_back h
  · exact h.elim

/-! ### which loop a contract is for -/
/-- The body of the loop whose first region is r. -/
def loopCode (P : Program) (f r : Nat) : Code :=
  match P.funcs[f]? with
  | some fn => match fn.body with
    | some c => ((loopsOf c).find? fun c' => firstRegion c' == r).getD .skip
    | none => .skip
  | none => .skip

/-- The loops of a function have first regions of their own. -/
def apartB : List Nat → Bool
  | [] => true
  | x :: r => !r.contains x && apartB r

def loopsApart (P : Program) (f : Nat) : Bool :=
  match P.funcs[f]? with
  | some fn => match fn.body with
    | some c => apartB ((loopsOf c).map firstRegion)
    | none => true
  | none => true

theorem find_apart : ∀ {l : List Code} {c : Code}, apartB (l.map firstRegion) = true → c ∈ l → l.find? (fun c' => firstRegion c' == firstRegion c) = some c
  | [], c, _, h => by simp at h
  | d :: l, c, ha, h => by
    simp only [List.map_cons, apartB, Bool.and_eq_true, Bool.not_eq_true', List.contains_eq_mem] at ha
    simp only [List.mem_cons] at h
    rw [List.find?_cons]
    rcases h with rfl | h
    · simp
    · have hne : ¬ (firstRegion d = firstRegion c) := by
        intro e
        have : firstRegion d ∈ l.map firstRegion := by rw [e]; exact List.mem_map_of_mem h
        simp [this] at ha
      have hb : (firstRegion d == firstRegion c) = false := by
        rw [Bool.eq_false_iff]; simpa using hne
      rw [hb]
      exact find_apart ha.2 h

/-- The context in which a function's own code is evaluated. -/
def ctxOf (P : Program) (cfg : Cfg) (f k : Nat) : Ctx :=
  { P, cfg, self := f, call := (evTwo P cfg k).call, run := (evTwo P cfg k).run, round := false, depth := k }

theorem loops_of {P : Program} {cfg : Cfg} (h : ∀ f r F, cfg.loop f r = some F → loopsApart P f = true ∧ ∀ k, LoopOk (ctxOf P cfg f k) (loopCode P f r) (F k)) :
    ∀ f fn c, P.funcs[f]? = some fn → fn.body = some c → ∀ k, LoopsOk { P, cfg, self := f, call := (evTwo P cfg k).call, run := (evTwo P cfg k).run, round := false, depth := k } c := by
  intro f fn c hf hb k _ c' hc F hF
  obtain ⟨ha, hl⟩ := h f _ F hF
  have hcode : loopCode P f (firstRegion c') = c' := by
    simp only [loopsApart, hf, hb] at ha
    simp only [loopCode, hf, hb]
    rw [find_apart ha hc]
    rfl
  have := hl k
  rw [hcode] at this
  exact this
end Go.Ev
