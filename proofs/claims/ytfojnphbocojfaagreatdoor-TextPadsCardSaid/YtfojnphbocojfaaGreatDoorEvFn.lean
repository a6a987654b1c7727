/- Contracts of functions: out of an evaluation over an empty heap, or over any. -/
import Derived.Test.YtfojnphbocojfaaGreatDoorEvLoop
set_option linter.all false
set_option linter.unusedVariables false
set_option linter.unusedSimpArgs false
namespace Go.Ev
open Go Go.RowKit
variable [Glob]

/-- A function's contract: what a call comes to. -/
structure Has (P : Program) (f : FuncId) (h : List V → St → Out V) : Prop where
  ok : CallOk P f h
  body : ∃ fn, P.funcs[f]? = some fn ∧ fn.body.isSome = true

theorem Has.of {P : Program} {cfg : Cfg} (hc : CfgOk P cfg) (k : Nat) {f : FuncId} {h : List V → St → Out V} (hb : ∃ fn, P.funcs[f]? = some fn ∧ fn.body.isSome = true)
    (hall : ∀ args s K Kp, (h args s).all K Kp → (evFn P cfg k f args s).all K Kp) : Has P f h :=
  ⟨fun args s base g w cargs K Kp hw hargs hh => (evFn_ok hc k).1 f args s base g w cargs K Kp hw hargs (hall args s K Kp hh), hb⟩

/-- The call without the caller's heap. -/
def shutH (h : List V → St → Out V) : List V → St → Out V :=
  fun args s => if closedL (args.map strip) then (h (args.map strip) {}).shut s else .err

theorem CallOk.shut {P : Program} {f : FuncId} {h : List V → St → Out V} (h1 : CallOk P f h) : CallOk P f (shutH h) := by
  intro args s base g w cargs K Kp hw hargs hall
  unfold shutH at hall
  split at hall
  · rename_i hcl
    have hall' := shut_all s _ hall
    have hb : VRs g.bare (args.map strip) cargs := by
      have := hargs.strip
      exact ⟨this.1, fun i x y hx hy => VR.closed_mono (g := g) (g' := g.bare) (fun _ _ _ h => h) (this.2 i x y hx hy) (closedL_get hcl hx)⟩
    refine (h1 (args.map strip) {} w.heap.size g.bare w cargs _ _ hw.bare hb hall').mono fun e w' hpost => ?_
    cases e with
    | returned c =>
      obtain ⟨v, s', g', ⟨hc, hK⟩, hg, hw', hv⟩ := hpost
      obtain ⟨h1, h2⟩ := hw.back hg hw'
      exact ⟨strip v, s, _, hK, h2, h1, VR.closed_mono (g := g') (g' := { loc := g.loc, C := g'.C, hist := g.hist }) (fun _ _ _ h => h) (strip_rel hv) hc⟩
    | panicked ch =>
      obtain ⟨v, s', g', c, e, ⟨hc, hK⟩, hg, hw', hv⟩ := hpost
      obtain ⟨h1, h2⟩ := hw.back hg hw'
      exact ⟨v, s, _, c, e, hK, h2, h1, VR.closed_mono (g := g') (g' := { loc := g.loc, C := g'.C, hist := g.hist }) (fun _ _ _ h => h) hv hc⟩
    | outgrown => exact hpost
  · exact hall.elim

/-- A contract that is proved over an empty heap. -/
theorem Has.shut {P : Program} {cfg : Cfg} (hc : CfgOk P cfg) (k : Nat) {f : FuncId} {h : List V → St → Out V} (hb : ∃ fn, P.funcs[f]? = some fn ∧ fn.body.isSome = true)
    (hall : ∀ args s K Kp, (h args s).all K Kp → closedL (args.map strip) = true ∧
      (evFn P cfg k f (args.map strip) {}).all (fun v _ => closed (strip v) = true ∧ K (strip v) s) (fun v _ => closed v = true ∧ Kp v s)) : Has P f h := by
  refine ⟨fun args s base g w cargs K Kp hw hargs hh => ?_, hb⟩
  obtain ⟨h1, h2⟩ := hall args s K Kp hh
  refine ((evFn_ok hc k).1 f).shut args s base g w cargs K Kp hw hargs ?_
  unfold shutH
  rw [if_pos h1]
  have key : ∀ x : Out V, x.all (fun v _ => closed (strip v) = true ∧ K (strip v) s) (fun v _ => closed v = true ∧ Kp v s) → (x.shut s).all K Kp := by
    intro x
    induction x with
    | ok v t => intro h; simp only [Out.shut]; rw [if_pos h.1]; exact h.2
    | pan v t => intro h; simp only [Out.shut]; rw [if_pos h.1]; exact h.2
    | err => intro h; exact h
    | choice n k ih => intro h i hi; exact ih i (h i hi)
    | br t x y ih1 ih2 => intro h; exact ⟨fun e => ih1 (h.1 e), fun e => ih2 (h.2 e)⟩
  exact key _ h2

/-- Functions that are taken by contracts: by a value alone, or in full. -/
inductive Ext where
  | val (h : List V → Option V)
  | full (h : List V → St → Out V)

def Ext.out : Ext → List V → St → Out V
  | .val h => fun args s => .ofOption (h args) s
  | .full h => h

def Ext.quiet : Ext → Option (List V → Option V)
  | .val h => some h
  | .full _ => none

abbrev Exts := List (FuncId × Ext)

def extOf : Exts → FuncId → Option Ext
  | [], _ => none
  | (g, h) :: r, f => if Nat.beq g f then some h else extOf r f

def ExtsOk (P : Program) (es : Exts) : Prop := ∀ p ∈ es, Has P p.1 p.2.out

theorem ExtsOk.nil {P : Program} : ExtsOk P [] := fun _ h => by simp at h
theorem ExtsOk.cons {P : Program} {es : Exts} {f : FuncId} {h : Ext} (h1 : Has P f h.out) (h2 : ExtsOk P es) : ExtsOk P ((f, h) :: es) := by
  intro p hp
  rcases List.mem_cons.1 hp with rfl | hp
  · exact h1
  · exact h2 p hp

theorem extOf_ok {P : Program} {es : Exts} (h : ExtsOk P es) {f : FuncId} {H : Ext} (hf : extOf es f = some H) : Has P f H.out := by
  induction es with
  | nil => simp [extOf] at hf
  | cons p es ih =>
    obtain ⟨g, h'⟩ := p
    simp only [extOf] at hf
    split at hf
    · rename_i e
      have := Nat.eq_of_beq_eq_true e
      subst this
      simp only [Option.some.injEq] at hf
      subst hf
      exact h (g, h') List.mem_cons_self
    · exact ih (fun p hp => h p (by simp [hp])) hf

/-- Loops that are taken by contracts: function, first region, slots of the frame, live slots, contract. -/
structure LoopC where
  f : FuncId
  r : Nat
  n : Nat
  live : List Nat
  F : Nat → List V → St → Out (Ex × List V)
  /-- are the rows that a round makes forgotten at its end? -/
  cut : Bool

def loopOf : List LoopC → FuncId → Nat → Option (Nat → Env → List Nat → St → Out (Ex × Env × List Nat))
  | [], _, _ => none
  | c :: r, f, i => if Nat.beq c.f f && Nat.beq c.r i then some (loopH c.n c.live c.F) else loopOf r f i

def deadL : List LoopC → FuncId → Nat → List Nat
  | [], _, _ => []
  | c :: r, f, i => if Nat.beq c.f f && Nat.beq c.r i then deadOf c.n c.live else deadL r f i

/-- A configuration for symbolic runs. -/
def symCfg (base : Cfg) (sym : FuncId → Bool) (es : Exts) (ls : List LoopC) (mem : FuncId → Bool := fun _ => false) (hp : FuncId → Nat → Nat → Bool := base.heapy) : Cfg :=
  { base with ext := fun f => (extOf es f).map Ext.out, quiet := fun f => (extOf es f).bind Ext.quiet, sym := sym, loop := loopOf ls, dead := deadL ls, mem := mem, heapy := hp }

/-- A contract for a loop is right. -/
def LoopC.Ok (P : Program) (cfg : Cfg) (c : LoopC) : Prop :=
  loopsApart P c.f = true ∧ firstRegion (loopCode P c.f c.r) = c.r ∧ ∃ μ : List V → St → Nat, ∀ (k : Nat) (xs : List V) (s : St) (K : Ex × List V → St → Prop) (Kp : V → St → Prop), xs.length = c.live.length → (c.F k xs s).all K Kp →
      (if c.cut then roundCut (ctxOf P cfg c.f k) (loopCode P c.f c.r) c.n c.live xs s else roundOut (ctxOf P cfg c.f k) (loopCode P c.f c.r) c.n c.live xs [] s).all (fun r s' => r.2.2 = [] ∧ (r.1 = .norm → μ r.2.1 s' < μ xs s ∧ (c.F k r.2.1 s').all K Kp) ∧ (r.1 ≠ .norm → ∃ ys, WeakL ys r.2.1 ∧ K (r.1, ys) s')) Kp

theorem loopOf_ok {ls : List LoopC} {f r : Nat} {H : Nat → Env → List Nat → St → Out (Ex × Env × List Nat)} (h : loopOf ls f r = some H) : ∃ c ∈ ls, c.f = f ∧ c.r = r ∧ H = loopH c.n c.live c.F ∧ deadL ls f r = deadOf c.n c.live := by
  induction ls with
  | nil => simp [loopOf] at h
  | cons c ls ih =>
    simp only [loopOf, deadL] at h ⊢
    split at h
    · rename_i e
      simp only [Bool.and_eq_true] at e
      simp only [Option.some.injEq] at h
      refine ⟨c, by simp, Nat.eq_of_beq_eq_true e.1, Nat.eq_of_beq_eq_true e.2, h.symm, ?_⟩
      rw [if_pos (by simp [e.1, e.2])]
    · rename_i e
      obtain ⟨c', h1, h2⟩ := ih h
      rw [if_neg e]
      exact ⟨c', by simp [h1], h2⟩

/-- What is asked once of a program and a base configuration. -/
structure BaseOk (P : Program) (base : Cfg) : Prop where
  names : NamesOk P
  mixed : P.follows .mixedOrders = true
  sched : ∀ f fn c, P.funcs[f]? = some fn → fn.body = some c → codeSched base f c = true

theorem codeSched_eq {cfg cfg' : Cfg} (h1 : cfg.rest = cfg'.rest) (h2 : cfg.shut = cfg'.shut) (f : Nat) (c : Code) : codeSched cfg f c = codeSched cfg' f c := by
  have hq : quietKind cfg = quietKind cfg' := by funext o; unfold quietKind; rw [h2]
  have hq2 : ∀ ops i, quietAt cfg ops i = quietAt cfg' ops i := by intro ops i; unfold quietAt; rw [hq]
  have ha : ∀ ops l M b i, aheadB cfg ops l M b i = aheadB cfg' ops l M b i := by intro ops l M b i; unfold aheadB; rw [hq]
  have hs : ∀ ops l M, schedB cfg ops l M = schedB cfg' ops l M := by
    intro ops l
    induction l with
    | nil => intro M; rfl
    | cons p l ih =>
      intro M
      obtain ⟨i, m⟩ := p
      simp only [schedB, ih, ha, hq2]
  induction c with
  | region id ops d =>
    cases d with
    | true => simp only [codeSched, h1, hs]
    | false => rfl
  | seq a b ih1 ih2 => simp only [codeSched, ih1, ih2]
  | cond c a b ih1 ih2 => simp only [codeSched, ih1, ih2]
  | rangeFunc f ps a b ih1 ih2 => simp only [codeSched, ih1, ih2]
  | block i c ih => simp only [codeSched, ih]
  | loop c ih => simp only [codeSched, ih]
  | scope c ih => simp only [codeSched, ih]
  | _ => rfl

theorem symCfg_ok {P : Program} {base : Cfg} {sym : FuncId → Bool} {es : Exts} {ls : List LoopC} {mem : FuncId → Bool} {hp : FuncId → Nat → Nat → Bool} (hb : BaseOk P base) (he : ExtsOk P es)
    (hl : ∀ c ∈ ls, c.Ok P (symCfg base sym es ls mem hp)) : CfgOk P (symCfg base sym es ls mem hp) := by
  refine ⟨hb.names, hb.mixed, fun f fn c h1 h2 => ?_, loops_of fun f r F hF => ?_, fun f h hf => ?_, fun f h hf => ?_⟩
  · rw [codeSched_eq (cfg := symCfg base sym es ls mem hp) (cfg' := base) rfl rfl]
    exact hb.sched f fn c h1 h2
  · obtain ⟨c, h1, rfl, rfl, rfl, h3⟩ := loopOf_ok hF
    obtain ⟨h4, h5, μ, h6⟩ := hl c h1
    refine ⟨h4, fun k => ?_⟩
    have hd : (ctxOf P (symCfg base sym es ls mem hp) c.f k).cfg.dead (ctxOf P (symCfg base sym es ls mem hp) c.f k).self (firstRegion (loopCode P c.f c.r)) = deadOf c.n c.live := by
      rw [h5]; exact h3
    cases hcut : c.cut with
    | true => simp only [hcut, if_true] at h6; exact loopH_cut (X := ctxOf P (symCfg base sym es ls mem hp) c.f k) μ hd (h6 k)
    | false => simp only [hcut, Bool.false_eq_true, if_false] at h6; exact loopH_ok (X := ctxOf P (symCfg base sym es ls mem hp) c.f k) μ hd (h6 k)
  · simp only [symCfg, Option.map_eq_some_iff] at hf
    obtain ⟨e, he', rfl⟩ := hf
    have := extOf_ok he he'
    exact ⟨this.ok, this.body⟩
  · simp only [symCfg, Option.bind_eq_some_iff] at hf ⊢
    obtain ⟨e, he', hq⟩ := hf
    rw [he']
    cases e with
    | val q => simp only [Ext.quiet, Option.some.injEq] at hq; subst hq; rfl
    | full q => simp [Ext.quiet] at hq

theorem Out.all_eq {α : Type} {x y : Out α} {K : α → St → Prop} {Kp : V → St → Prop} (e : x = y) (h : y.all K Kp) : x.all K Kp := e ▸ h

/-- A contract by a value alone, proved over an empty heap. -/
theorem Has.val {P : Program} {cfg : Cfg} (hc : CfgOk P cfg) (k : Nat) {f : FuncId} {h : List V → Option V} (hb : ∃ fn, P.funcs[f]? = some fn ∧ fn.body.isSome = true)
    (hall : ∀ args v, h args = some v → closedL (args.map strip) = true ∧
      (evFn P cfg k f (args.map strip) {}).all (fun v' _ => strip v' = v ∧ closed v = true) (fun _ _ => False)) : Has P f (Ext.val h).out := by
  refine Has.shut hc k hb fun args s K Kp hh => ?_
  simp only [Ext.out] at hh
  cases hv : h args with
  | none => rw [hv] at hh; exact hh.elim
  | some v =>
    rw [hv] at hh
    obtain ⟨h1, h2⟩ := hall args v hv
    refine ⟨h1, Out.all_mono (fun v' _ hv' => ?_) (fun _ _ hf => hf.elim) _ h2⟩
    obtain ⟨e1, e2⟩ := hv'
    rw [e1]
    exact ⟨e2, hh⟩
end Go.Ev
