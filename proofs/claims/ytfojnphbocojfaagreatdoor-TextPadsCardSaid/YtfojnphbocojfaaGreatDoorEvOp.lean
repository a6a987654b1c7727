/- One operation of the evaluator, held against the model's. -/
import Derived.CallsIn
import Derived.TacticsIn
import Derived.Test.YtfojnphbocojfaaGreatDoorEvMem
set_option linter.all false
set_option linter.unusedVariables false
set_option linter.unusedSimpArgs false
namespace Go.Ev
open Go Go.RowKit
variable [Glob]

def Out.all {α : Type} (K : α → St → Prop) (Kp : V → St → Prop) : Out α → Prop
  | .ok a s => K a s
  | .pan v s => Kp v s
  | .err => False
  | .choice n k => ∀ i, i < n → (k i).all K Kp
  | .br t x y => (t = true → x.all K Kp) ∧ (t = false → y.all K Kp)

theorem Out.all_bind {α β : Type} {K : β → St → Prop} {Kp : V → St → Prop} {f : α → St → Out β} : ∀ (x : Out α),
    (x.bind f).all K Kp → x.all (fun a s => (f a s).all K Kp) Kp
  | .ok a s, h => h
  | .pan v s, h => h
  | .err, h => h
  | .choice n k, h => fun i hi => Out.all_bind (k i) (h i hi)
  | .br t x y, h => ⟨fun e => Out.all_bind x (h.1 e), fun e => Out.all_bind y (h.2 e)⟩

theorem Out.all_mono {α : Type} {K K' : α → St → Prop} {Kp Kp' : V → St → Prop} (h : ∀ a s, K a s → K' a s) (hp : ∀ v s, Kp v s → Kp' v s) : ∀ (x : Out α), x.all K Kp → x.all K' Kp'
  | .ok a s, hx => h _ _ hx
  | .pan v s, hx => hp _ _ hx
  | .err, hx => hx
  | .choice n k, hx => fun i hi => Out.all_mono h hp (k i) (hx i hi)
  | .br t x y, hx => ⟨fun e => Out.all_mono h hp x (hx.1 e), fun e => Out.all_mono h hp y (hx.2 e)⟩

/-- What a call comes to. -/
def Post (base : Nat) (g : Gh) (w : World) (K : V → St → Prop) (Kp : V → St → Prop) : Ending → World → Prop
  | .returned c, w' => ∃ v s' g', K v s' ∧ Grow base g g' w w' ∧ WR base g' s' w' ∧ VR g' v c
  | .panicked chain, w' => ∃ v s' g' c, chain = [{ v := c, recovered := false }] ∧ Kp v s' ∧ Grow base g g' w w' ∧ WR base g' s' w' ∧ VR g' v c
  | .outgrown, _ => False

def CallOk (P : Program) (f : FuncId) (call : List V → St → Out V) : Prop :=
  ∀ (args : List V) (s : St) (base : Nat) (g : Gh) (w : World) (cargs : Array Value) (K Kp : V → St → Prop), WR base g s w → VRs g args cargs →
    (call args s).all K Kp → Calls P f cargs w (Post base g w K Kp)

/-- No function of the program is one that the machine answers itself. -/
def NamesOk (P : Program) : Prop := P.funcs.all (fun fn => fn.name != "runtime.NumGoroutine") = true

/-- What is asked of a piece of code: whatever the evaluator says of it, holds of it. The marks are the activation's deferred calls. -/
def MR (g : Gh) (ms : List Nat) (ds : List Deferred) : Prop :=
  ms.length = ds.length ∧ ∀ (i id : Nat) (d : Deferred), ms[i]? = some id → ds[i]? = some d → ∃ b, g.loc[id]? = some b ∧ d = { target := .collected b, args := #[] }

def CodeOk (P : Program) (ro : Option Nat) (base : Nat) (g : Gh) (w : World) (a : Act) (c : Code) (r : Out (Ex × Env × List Nat)) : Prop :=
  ∀ (K : Ex × Env × List Nat → St → Prop) (Kp : V → St → Prop) (Q : Exit → Act → World → Prop), r.all K Kp →
    (∀ e env ms s' g' w' a', K (e, env, ms) s' → Grow base g g' w w' → WR base g' s' w' → VRs g' env a'.tmps → MR g' ms a'.defers →
      match e with | .norm => Q .normal a' w' | .exit id => Q (.exit id) a' w' | .ret => Q .ret a' w') →
    (∀ v s' g' w' c' a', Kp v s' → Grow base g g' w w' → WR base g' s' w' → VR g' v c' → a'.defers = a.defers → Q (.panic [{ v := c', recovered := false }]) a' w') →
    c.wpIn { Fence.wide with round := ro } 0 P Q a w

/-- Code in a round's frame. -/
def RunOk (P : Program) (cfg : Cfg) (run : FuncId → Code → Env → St → Out (Ex × Env × List Nat)) : Prop :=
  ∀ (f : FuncId) (c : Code) (base : Nat) (g : Gh) (w : World) (a : Act) (env : Env) (s : St) (ro : Option Nat), codeSched cfg f c = true → WR base g s w → VRs g env a.tmps → a.defers = [] →
    CodeOk P ro base g w a c (run f c env s)

structure CtxOk (X : Ctx) : Prop where
  run : RunOk X.P X.cfg X.run
  names : NamesOk X.P
  mixed : X.P.follows .mixedOrders = true
  call : ∀ f, CallOk X.P f (X.call f)
  body : ∀ f args s K Kp, (X.call f args s).all K Kp → ∃ fn, X.P.funcs[f]? = some fn ∧ fn.body.isSome = true
  ext : ∀ f h, X.cfg.ext f = some h → CallOk X.P f h ∧ ∃ fn, X.P.funcs[f]? = some fn ∧ fn.body.isSome = true
  quiet : ∀ f h, X.cfg.quiet f = some h → X.cfg.ext f = some fun args s => .ofOption (h args) s

section
variable {P : Program} {base : Nat} {g : Gh} {s : St} {w : World} {o : Oper} {a : Act} {next : Act → World → Prop} {Q : Exit → Act → World → Prop}

/-- Every function, every depth; in a round of a range over a function, or in none. -/
abbrev FR (ro : Option Nat) : Fence := { Fence.wide with round := ro }

theorem FR_depth (ro : Option Nat) : ((FR ro).depth.isSome = true → 1 ≤ 0) := fun h => by simp [FR, Fence.wide] at h

variable {ro : Option Nat}

theorem not_defer {n : Next} {w' : World} (h : (execOp a.eval o).run P w = .ok n w') (hn : ∀ d, n ≠ .defer d) : ∀ c, o.op ≠ .defer c := by
  intro c hc
  unfold execOp at h
  rw [hc] at h
  simp only [Sem.run_bind] at h
  cases hr : (resolve a.eval c o.type).run P w with
  | ok d w1 =>
    rw [hr] at h
    simp only [Result.andThen_ok, Sem.run_pure, Result.ok.injEq] at h
    exact hn d h.1.symm
  | halt x w1 => rw [hr] at h; simp [Result.andThen] at h

theorem wp_value {c : Value} {w' : World} (h : (execOp a.eval o).run P w = .ok (.value c) w') (hn : next (a.put o.dst c) w') : o.wpIn (FR ro) 0 P a w next Q := by
  refine ⟨fun _ _ => trivial, ?_⟩
  rw [Oper.semAt_eq _ _ _ (not_defer h fun _ => nofun), h]; exact hn

theorem wp_skip' {w' : World} (h : (execOp a.eval o).run P w = .ok .skip w') (hn : next (a.put o.dst undef) w') : o.wpIn (FR ro) 0 P a w next Q := by
  refine ⟨fun _ _ => trivial, ?_⟩
  rw [Oper.semAt_eq _ _ _ (not_defer h fun _ => nofun), h]; exact hn

theorem wp_panic {c : Value} {w' : World} (hnd : ∀ c, o.op ≠ .defer c) (h : (execOp a.eval o).run P w = .halt (.panic c) w') (hn : Q (.panic [{ v := c, recovered := false }]) a w') : o.wpIn (FR ro) 0 P a w next Q := by
  refine ⟨fun _ _ => trivial, ?_⟩
  rw [Oper.semAt_eq _ _ _ hnd, h]; exact hn

/-- What is asked of one operation. -/
def OpOk (P : Program) (base : Nat) (g : Gh) (w : World) (o : Oper) (a : Act) (r : Out V) : Prop :=
  ∀ (K Kp : V → St → Prop) (next : Act → World → Prop) (Q : Exit → Act → World → Prop), r.all K Kp →
    (∀ v s' g' w' c, K v s' → Grow base g g' w w' → WR base g' s' w' → VR g' v c → next (a.put o.dst c) w') →
    (∀ v s' g' w' c, Kp v s' → Grow base g g' w w' → WR base g' s' w' → VR g' v c → Q (.panic [{ v := c, recovered := false }]) a w') →
    ∀ ro, o.wpIn (FR ro) 0 P a w next Q

theorem OpOk.value {v : V} {s' : St} {g' : Gh} {w' : World} {c : Value} (hr : (execOp a.eval o).run P w = .ok (.value c) w')
    (hg : Grow base g g' w w') (hw : WR base g' s' w') (hv : VR g' v c) : OpOk P base g w o a (.ok v s') :=
  fun _ _ _ _ hK hn _ _ => wp_value hr (hn _ _ _ _ _ hK hg hw hv)

theorem OpOk.skip {s' : St} {g' : Gh} {w' : World} (hr : (execOp a.eval o).run P w = .ok .skip w')
    (hg : Grow base g g' w w') (hw : WR base g' s' w') : OpOk P base g w o a (.ok .any s') :=
  fun _ _ _ _ hK hn _ _ => wp_skip' hr (hn _ _ _ _ _ hK hg hw (.any _))

theorem OpOk.err : OpOk P base g w o a .err := fun _ _ _ _ h _ _ _ => h.elim

theorem OpOk.same {v : V} {c : Value} (hw : WR base g s w) (hr : (execOp a.eval o).run P w = .ok (.value c) w) (hv : VR g v c) : OpOk P base g w o a (.ok v s) :=
  .value hr (.refl _ _ _) hw hv

/-! ### rows -/
theorem newRow_ok {t : TypeId} {cells : List V} {cs : Array Value} (hw : WR base g s w) (hc : VRs g cells cs)
    (hr : (execOp a.eval o).run P w = .ok (.value (.pointer (some ⟨w.heap.size, 0, none⟩))) (w.alloc (.cells cs t))) : OpOk P base g w o a (newRow t cells s) := by
  have hsub := g.sub_addLoc w.heap.size
  obtain ⟨h1, h2⟩ := hw.alloc (k := .row t cells) (o := .cells cs t) ⟨rfl, by rw [hc.1]; exact Nat.le_refl _, (hc.mono hsub).2, fun o _ ⟨_, h⟩ => by simp at h⟩
  refine .value hr h2 h1 (.ptr _ _ _ ?_)
  simp only [Gh.addLoc]
  rw [← hw.len, List.getElem?_append_right (Nat.le_refl _)]
  simp

theorem run_newVar (t : TypeId) (v : Value) (w : World) : (newVar t v).run P w = .ok ⟨w.heap.size, 0, none⟩ (w.alloc (.cells v.cells t)) := by
  simp [newVar, Go.newRow]

theorem alloc_ok {e : TypeId} {z : V} {dst : Option Tmp} {type : TypeId} {pos : String} {after : Array Edge} {guard : Option (Nat × Bool)} (hw : WR base g s w) (hz : zeroT P e = some z) :
    OpOk P base g w ⟨dst, .alloc e, type, pos, after, guard⟩ a (newRow e z.cells s) := by
  obtain ⟨c, hrun, rfl⟩ := zeroT_spec hz
  refine newRow_ok hw (absV_cells g c) ?_
  unfold execOp Instr.alloc
  simp only [Sem.run_bind, hrun, Result.andThen_ok, run_newVar, Sem.run_pure]

theorem box_ok {e : TypeId} {x : Operand} {v : V} {dst : Option Tmp} {type : TypeId} {pos : String} {after : Array Edge} {guard : Option (Nat × Bool)} (hw : WR base g s w) (hv : VR g v (a.eval x)) (hgood : goodB v = true) :
    OpOk P base g w ⟨dst, .box e x, type, pos, after, guard⟩ a (newRow e v.cells s) := by
  refine newRow_ok hw (hv.cells hgood) ?_
  unfold execOp Instr.box
  simp only [Sem.run_bind, Result.andThen_ok, run_newVar, Sem.run_pure]

theorem loadV_ok {t : TypeId} {x : V} {cx : Value} {v : V} (hw : WR base g s w) (hx : VR g x cx) (h : loadV P t x s = some v) :
    ∃ c, VR g v c ∧ (Instr.loadAt t cx).run P w = .ok c w := by
  unfold loadV at h
  split at h
  · rename_i id off
    split at h
    · rename_i u cells hcell
      cases hx with
      | ptr _ _ b hb =>
        obtain ⟨ob, hob, hr⟩ := hw.blk id _ b hcell hb
        cases ob <;> simp only [BR] at hr
        rename_i cs t' fz
        obtain ⟨rfl, hle, hrel, _⟩ := hr
        unfold partV at h
        split at h
        · rename_i n hk
          split at h
          · rename_i hn
            simp only [Option.some.injEq] at h
            subst h
            have hcs : ((cs.toList.drop off).take n).length = n := by simp; omega
            refine ⟨.agg ((cs.toList.drop off).take n).toArray, .agg _ _ (by simp; omega) (fun i x y hx hy => ?_), ?_⟩
            · have hx' := (sub_get hx).1
              have hy' : cs[off + i]? = some y := by
                simp only [List.getElem?_toArray] at hy
                rw [List.getElem?_take] at hy
                split at hy
                · rw [List.getElem?_drop] at hy; simpa using hy
                · simp at hy
              exact hrel _ _ _ hx' hy'
            · unfold Instr.loadAt loadVar
              simp only [Sem.run_bind, Instr.sureAddr, Sem.run_pure, Result.andThen_ok, (kindT_run hk w).1, (kindT_run hk w).2, if_true]
              rw [loadCells_ok w b off n _ hcs (fun j c hj => by
                rw [cell_of w b _ cs t' fz hob]
                rw [List.getElem?_take] at hj
                split at hj
                · rw [List.getElem?_drop] at hj; simpa using hj
                · simp at hj)]
              rfl
          · simp at h
        · rename_i n hk
          have hlt : off < cs.size := by
            have : off < cells.length := by
              rcases Nat.lt_or_ge off cells.length with h' | h'
              · exact h'
              · simp [List.getElem?_eq_none h'] at h
            omega
          refine ⟨cs[off], hrel off _ _ h (by simp [hlt]), ?_⟩
          unfold Instr.loadAt loadVar
          simp only [Sem.run_bind, Instr.sureAddr, Sem.run_pure, Result.andThen_ok, (kindT_run hk w).1, Bool.false_eq_true, if_false]
          rw [run_load, cell_of w b _ cs t' fz hob]
          simp [hlt]
        · simp at h
    · simp at h
  · rename_i y
    split at h
    · rename_i hk
      simp only [Option.some.injEq] at h
      subst h
      cases hx with
      | eptr _ b off c h1 h2 =>
        cases hag : y.isAgg with
        | true =>
          cases y <;> simp only [V.isAgg, Bool.false_eq_true] at hag
          rename_i cs
          rw [show (V.agg cs).isAgg = true from rfl] at hk
          have hlen : ((List.range cs.length).map c).length = cs.length := by simp
          have hget : ∀ (j : Nat) (d : Value), ((List.range cs.length).map c)[j]? = some d → j < cs.length ∧ d = c j := by
            intro j d hd
            simp only [List.getElem?_map, Option.map_eq_some_iff] at hd
            obtain ⟨k, hk, rfl⟩ := hd
            rw [List.getElem?_eq_some_iff] at hk
            obtain ⟨hlt, hk⟩ := hk
            have e : k = j := by simpa using hk.symm
            subst e
            exact ⟨by simpa using hlt, rfl⟩
          refine ⟨.agg ((List.range cs.length).map c).toArray, .agg _ _ (by simp) (fun i x d hx hd => ?_), ?_⟩
          · obtain ⟨_, rfl⟩ := hget i d (by simpa using hd)
            exact h2 i x hx
          · unfold Instr.loadAt loadVar
            simp only [Sem.run_bind, Instr.sureAddr, Sem.run_pure, Result.andThen_ok, (kindT_run hk w).1, (kindT_run hk w).2, if_true]
            rw [show (V.agg cs).cells.length = cs.length from rfl, loadCells_ok w b off _ _ hlen (fun j d hj => by
              obtain ⟨hlt, rfl⟩ := hget j d hj
              exact hw.Imm _ _ _ (h1 j cs[j] (by simp [V.cells, hlt])))]
            rfl
        | false =>
          have hy : y.cells = [y] := by cases y <;> first | rfl | simp [V.isAgg] at hag
          rw [hag] at hk
          refine ⟨c 0, h2 0 y (by rw [hy]; rfl), ?_⟩
          have hcell := hw.Imm _ _ _ (h1 0 y (by rw [hy]; rfl))
          unfold Instr.loadAt loadVar
          simp only [Sem.run_bind, Instr.sureAddr, Sem.run_pure, Result.andThen_ok, (kindT_run hk w).1, Bool.false_eq_true, if_false]
          rw [run_load]
          simp only [Nat.add_zero] at hcell
          rw [hcell]
    · simp at h
  · simp at h


theorem load_ok {t : TypeId} {x : Operand} {xv : V} {dst : Option Tmp} {type : TypeId} {pos : String} {after : Array Edge} {guard : Option (Nat × Bool)} (hw : WR base g s w) (hx : VR g xv (a.eval x)) :
    OpOk P base g w ⟨dst, .load t x, type, pos, after, guard⟩ a (.ofOption (loadV P t xv s) s) := by
  cases h : loadV P t xv s with
  | none => exact .err
  | some v =>
    obtain ⟨c, hc, hr⟩ := loadV_ok hw hx h
    refine .same hw (c := c) ?_ hc
    unfold execOp
    simp only [Sem.run_bind, hr, Result.andThen_ok, Sem.run_pure]

theorem VRs.oneCell {cs : List V} {ys : Array Value} (h : VRs g cs ys) (hc : cs.all cellB = true) : ∀ v ∈ ys.toList, v.oneCell' = true := by
  intro v hv
  obtain ⟨i, hi, rfl⟩ := List.getElem_of_mem hv
  have hi' : i < ys.size := by simpa using hi
  have hix : i < cs.length := by rw [h.1]; exact hi'
  have := h.2 i cs[i] ys[i] (by simp [hix]) (by simp [hi'])
  have hb := List.all_eq_true.1 hc cs[i] (List.getElem_mem hix)
  have := (this.oneCell hb).1
  simpa using this

theorem goodB_cells {x : V} (h : goodB x = true) : x.cells.all cellB = true := by
  cases x <;> simp_all [goodB, V.cells]

theorem store_ok {t : TypeId} {x y : Operand} {xv yv : V} {dst : Option Tmp} {type : TypeId} {pos : String} {after : Array Edge} {guard : Option (Nat × Bool)} (hw : WR base g s w)
    (hx : VR g xv (a.eval x)) (hy : VR g yv (a.eval y)) :
    OpOk P base g w ⟨dst, .store t x y, type, pos, after, guard⟩ a (match storeV P t xv yv s with | some s' => .ok .any s' | none => .err) := by
  cases h : storeV P t xv yv s with
  | none => exact .err
  | some s' =>
    simp only
    unfold storeV at h
    split at h
    · rename_i id off
      split at h
      · rename_i u cells hcell
        split at h
        · rename_i hc
          obtain ⟨hk, hle, hgood⟩ := hc
          simp only [Option.some.injEq] at h
          subst h
          generalize hxv : a.eval x = cx at hx
          cases hx with
          | ptr _ _ b hb =>
            obtain ⟨ob, hob, hr⟩ := hw.blk id _ b hcell hb
            cases ob <;> simp only [BR] at hr
            rename_i cs t' fz
            obtain ⟨rfl, hlen, hrel, hfz⟩ := hr
            have hcl := hy.cells hgood
            obtain ⟨ag, n, hk'⟩ : ∃ ag n, kindT P t = some (ag, n) := by
              cases hkk : kindT P t with
              | none => simp [hkk] at hk
              | some p => exact ⟨p.1, p.2, rfl⟩
            have hn : n = yv.cells.length := by simpa [hk'] using hk
            subst hn
            have hrun := storeCells_ok (P := P) b t' fz off (a.eval y).cells.toList 0 w cs hob (by have := hcl.1; simp; omega)
              (hcl.oneCell (goodB_cells hgood)) (fun o h1 h2 => hfz o (by have := hcl.1; simp at h2; omega))
            obtain ⟨h1, h2⟩ := hw.turn hb (k := .row t' (setAll cells off yv.cells)) (o := .cells (setAllC cs off (a.eval y).cells.toList) t' fz)
              ⟨rfl, by rw [setAll_length, setAllC_size]; exact hlen, setAllC_rel off hrel hlen (by simpa using hcl), fun o ho => hfz o (by rw [setAll_length] at ho; exact ho)⟩
            refine .skip ?_ h2 h1
            unfold execOp
            simp only [Sem.run_bind, Instr.storeAt, hxv, Instr.sureAddr, Sem.run_pure, Result.andThen_ok, storeVar, (kindT_run hk' w).2]
            rw [if_neg (by rw [← hcl.1]; simp)]
            simp only [Nat.add_zero] at hrun
            simp only [hrun, Result.andThen_ok]
        · simp at h
      · simp at h
    · simp at h

/-! ### slices that are built -/
theorem sizedB_good {e : TypeId} {x : V} (h : sizedB P e x = true) : goodB x = true := by
  unfold sizedB at h
  split at h
  · simp only [Bool.and_eq_true] at h; exact h.2
  · simp at h

/-- A list of elements, and the cells in which they lie one behind the other. -/
def Lies (g : Gh) (n : Nat) (xs : List V) (cs : Array Value) : Prop :=
  cs.size = xs.length * n ∧ ∀ (i : Nat) (x : V), xs[i]? = some x → x.cells.length = n ∧
    ∀ (j : Nat) (y : V), x.cells[j]? = some y → ∃ c, cs[i * n + j]? = some c ∧ VR g y c

theorem Lies.set {n : Nat} {xs : List V} {cs : Array Value} (h : Lies g n xs cs) {i : Nat} {v : V} {cv : Array Value} (hv : VRs g v.cells cv) (hn : v.cells.length = n) (hi : i < xs.length) :
    Lies g n (xs.set i v) (cv.toList.zipIdx.foldl (fun cs (p : Value × Nat) => cs.setIfInBounds (i * n + p.2) p.1) cs) := by
  have key : ∀ (l : List Value) (k : Nat) (acc : Array Value) (q : Nat), ((l.zipIdx k).foldl (fun cs (p : Value × Nat) => cs.setIfInBounds (i * n + p.2) p.1) acc)[q]? =
      if i * n + k ≤ q ∧ q < i * n + k + l.length ∧ q < acc.size then l[q - (i * n + k)]? else acc[q]? := by
    intro l
    induction l with
    | nil => intro k acc q; simp; intro h1 h2; omega
    | cons a l ih =>
      intro k acc q
      rw [List.zipIdx_cons, List.foldl_cons, ih]
      simp only [Array.size_setIfInBounds, List.length_cons, Array.getElem?_setIfInBounds]
      by_cases h1 : i * n + k = q
      · subst h1
        rw [if_neg (by omega)]
        by_cases h2 : i * n + k < acc.size
        · simp [h2]
        · simp [h2]
      · by_cases h2 : i * n + (k + 1) ≤ q ∧ q < i * n + (k + 1) + l.length ∧ q < acc.size
        · rw [if_pos h2, if_pos (by omega)]
          have : q - (i * n + k) = (q - (i * n + (k + 1))) + 1 := by omega
          rw [this, List.getElem?_cons_succ]
        · rw [if_neg h2, if_neg h1, if_neg (by omega)]
  have hsize : ∀ (l : List Value) (k : Nat) (acc : Array Value), ((l.zipIdx k).foldl (fun cs (p : Value × Nat) => cs.setIfInBounds (i * n + p.2) p.1) acc).size = acc.size := by
    intro l
    induction l with
    | nil => intro k acc; rfl
    | cons a l ih => intro k acc; rw [List.zipIdx_cons, List.foldl_cons, ih]; simp
  refine ⟨by rw [hsize, h.1]; simp, fun q x hx => ?_⟩
  rw [List.getElem?_set] at hx
  have hcv : cv.size = n := by rw [← hv.1]; exact hn
  by_cases e : i = q
  · subst e
    simp [hi] at hx
    subst hx
    refine ⟨hn, fun j y hy => ?_⟩
    have hj : j < n := by
      rw [← hn]
      rcases Nat.lt_or_ge j v.cells.length with h' | h'
      · exact h'
      · simp [List.getElem?_eq_none h'] at hy
    refine ⟨cv[j], ?_, hv.2 j _ _ hy (by simp)⟩
    rw [key]
    have hb : i * n + j < cs.size := by
      rw [h.1]
      calc i * n + j < i * n + n := by omega
        _ = (i + 1) * n := by rw [Nat.add_mul]; simp
        _ ≤ xs.length * n := Nat.mul_le_mul_right _ hi
    rw [if_pos (by simp; omega)]
    simp only [Nat.add_zero, Array.getElem?_toList]
    have : i * n + j - i * n = j := by omega
    rw [this]
    simp
  · rw [if_neg e] at hx
    obtain ⟨h1, h2⟩ := h.2 q x hx
    refine ⟨h1, fun j y hy => ?_⟩
    obtain ⟨c, hc, hr⟩ := h2 j y hy
    have hj : j < n := by
      rw [← h1]
      rcases Nat.lt_or_ge j x.cells.length with h' | h'
      · exact h'
      · simp [List.getElem?_eq_none h'] at hy
    refine ⟨c, ?_, hr⟩
    rw [key, if_neg]
    · exact hc
    · simp only [Nat.add_zero, Array.length_toList, hcv]
      rintro ⟨h3, h4, _⟩
      rcases Nat.lt_or_gt_of_ne e with h5 | h5
      · have : (i + 1) * n ≤ q * n := Nat.mul_le_mul_right _ h5
        rw [Nat.add_mul] at this; omega
      · have : (q + 1) * n ≤ i * n := Nat.mul_le_mul_right _ h5
        rw [Nat.add_mul] at this; omega

theorem fillL {e : TypeId} {n : Nat} {ag : Bool} (hk : kindT P e = some (ag, n)) : ∀ {ps : List (Nat × V)} {qs : List (Nat × Value)} {xs ys : List V} {cs : Array Value},
    Lies g n xs cs → PRs g ps qs → putParts P e xs ps = some ys → ∃ cs', Instr.fill (fun i => some (i * n, n)) cs qs = some cs' ∧ Lies g n ys cs'
  | [], [], xs, ys, cs, h, _, hf => by
    simp only [putParts, Option.some.injEq] at hf
    subst hf
    exact ⟨cs, rfl, h⟩
  | [], q :: qs, _, _, _, _, hp, _ => by have := hp.1; simp at this
  | p :: ps, [], _, _, _, _, hp, _ => by have := hp.1; simp at this
  | (i, v) :: ps, (j, y) :: qs, xs, ys, cs, h, hp, hf => by
    obtain ⟨e', hv, hp'⟩ := hp.cons
    simp only at e' hv
    subst e'
    simp only [putParts] at hf
    split at hf
    · rename_i hc
      obtain ⟨hs1, hs2, hs3⟩ := sizedB_spec hk hc.2
      have hcells := hv.cells hs3
      have hs : y.cells.size = n := by rw [← hcells.1]; exact hs1
      have hl := h.set hcells hs1 hc.1
      obtain ⟨cs', hcs, hr⟩ := fillL hk hl hp' hf
      refine ⟨cs', ?_, hr⟩
      have hb : i * n + n ≤ cs.size := by
        rw [h.1]
        calc i * n + n = (i + 1) * n := by rw [Nat.add_mul]; simp
          _ ≤ xs.length * n := Nat.mul_le_mul_right _ hc.1
      have hn : (y.cells.size ≠ n || decide (i * n + y.cells.size > cs.size)) = false := by
        simp [hs]; omega
      simp only [Instr.fill]
      rw [hn, zip_foldl]
      simpa using hcs
    · simp at hf

theorem Lies.zero {n len : Nat} {z : V} {c : Value} (hz : VRs g z.cells c.cells) (hn : z.cells.length = n) (h0 : n ≠ 0) :
    Lies g n (List.replicate len z) ((Array.range (len * n)).map (c.cells[· % c.cells.size]!)) := by
  have hc : c.cells.size = n := by rw [← hz.1]; exact hn
  refine ⟨by simp, fun i x hx => ?_⟩
  rw [List.getElem?_replicate] at hx
  split at hx
  · rename_i hi
    simp only [Option.some.injEq] at hx
    subst hx
    refine ⟨hn, fun j y hy => ?_⟩
    have hj : j < n := by
      rw [← hn]
      rcases Nat.lt_or_ge j z.cells.length with h' | h'
      · exact h'
      · simp [List.getElem?_eq_none h'] at hy
    have hb : i * n + j < len * n := by
      calc i * n + j < i * n + n := by omega
        _ = (i + 1) * n := by rw [Nat.add_mul]; simp
        _ ≤ len * n := Nat.mul_le_mul_right _ hi
    refine ⟨c.cells[j], ?_, hz.2 j _ _ hy (by simp)⟩
    simp only [Array.getElem?_map, Array.getElem?_range, hb, if_true, Option.map_some, Option.some.injEq, hc]
    have : (i * n + j) % n = j := by
      rw [Nat.add_comm, Nat.add_mul_mod_self_right, Nat.mod_eq_of_lt hj]
    rw [this]
    simp [hc, hj]
  · simp at hx

/-- A row of the call's own, as a list that nothing will turn. -/
theorem lst_new {n : Nat} {xs : List V} {cs : Array Value} {cap : Nat} {o' : Own} {t : TypeId} (fz : Nat × Nat) (rest : Array Value) (hw : WR base g s w) (hl : ∀ g', Sub g g' → Lies g' n xs cs) (hcap : xs.length ≤ cap) (hex : o' = .exact → cap = xs.length)
    (hlive : ∀ i, o' ≠ .live i) :
    ∃ g', Grow base g g' w (w.alloc (.cells (cs ++ rest) t fz)) ∧ WR base g' s (w.alloc (.cells (cs ++ rest) t fz)) ∧ VR g' (.lst o' xs) (.slice (some ⟨w.heap.size, 0, none⟩) xs.length cap) := by
  obtain ⟨h1, h2⟩ := hw.claim (cs ++ rest) t fz cs.size
  refine ⟨_, h2, h1, ?_⟩
  have hl' := hl _ h2.sub
  have hch : ∀ (i : Nat) (x : V) (j : Nat) (y : V), xs[i]? = some x → x.cells[j]? = some y → ∃ c, cs[i * n + j]? = some c ∧ VR (g.claim w.heap.size (cs ++ rest) cs.size) y c :=
    fun i x j y hx hy => (hl'.2 i x hx).2 j y hy
  refine .lst o' xs w.heap.size 0 cap n (fun i j => cs.getD (i * n + j) undef) hcap hex (fun i e => absurd e (hlive i)) (fun i x hx => (hl'.2 i x hx).1) (fun i x j y hx hy => ?_) (fun i x j y hx hy => ?_)
  · obtain ⟨c, hc, _⟩ := hch i x j y hx hy
    have hlt : i * n + j < cs.size := by
      rcases Nat.lt_or_ge (i * n + j) cs.size with h' | h'
      · exact h'
      · simp [Array.getElem?_eq_none h'] at hc
    simp only [Gh.claim, if_true, Nat.zero_add]
    rw [if_pos hlt, Array.getElem?_append_left hlt, hc, Array.getD_eq_getD_getElem?, hc]; rfl
  · obtain ⟨c, hc, hr⟩ := hch i x j y hx hy
    rw [Array.getD_eq_getD_getElem?, hc]; exact hr

theorem Lies.mono {g' : Gh} (hs : Sub g g') {n : Nat} {xs : List V} {cs : Array Value} (h : Lies g n xs cs) : Lies g' n xs cs :=
  ⟨h.1, fun i x hx => ⟨(h.2 i x hx).1, fun j y hy => let ⟨c, hc, hr⟩ := (h.2 i x hx).2 j y hy; ⟨c, hc, hr.mono hs⟩⟩⟩

/-- The cells of the elements, one behind the other. -/
theorem Lies.flat : ∀ {n : Nat} {xs : List V} {cs : Array Value}, Lies g n xs cs → VRs g (xs.flatMap V.cells) cs := by
  intro n xs cs h
  have hlen : ∀ (l : List V), (∀ x ∈ l, x.cells.length = n) → (l.flatMap V.cells).length = l.length * n := by
    intro l
    induction l with
    | nil => intro _; simp
    | cons a l ih => intro hl; simp only [List.flatMap_cons, List.length_append, List.length_cons]; rw [ih (fun x hx => hl x (by simp [hx])), hl a (by simp), Nat.add_mul]; omega
  have hx : ∀ x ∈ xs, x.cells.length = n := by
    intro x hx
    obtain ⟨i, hi, rfl⟩ := List.getElem_of_mem hx
    exact (h.2 i _ (by simp [hi])).1
  have hget : ∀ (l : List V), (∀ x ∈ l, x.cells.length = n) → ∀ (k : Nat) (y : V), (l.flatMap V.cells)[k]? = some y → ∃ i j x, l[i]? = some x ∧ x.cells[j]? = some y ∧ k = i * n + j := by
    intro l
    induction l with
    | nil => intro _ k y hy; simp at hy
    | cons a l ih =>
      intro hl k y hy
      rw [List.flatMap_cons, List.getElem?_append] at hy
      split at hy
      · exact ⟨0, k, a, rfl, hy, by omega⟩
      · rename_i hk
        rw [hl a (by simp)] at hy hk
        obtain ⟨i, j, x, h1, h2, h3⟩ := ih (fun x hx => hl x (by simp [hx])) _ y hy
        refine ⟨i + 1, j, x, h1, h2, ?_⟩
        rw [Nat.add_mul]; omega
  refine ⟨by rw [hlen xs hx, h.1], fun k y c hy hc => ?_⟩
  obtain ⟨i, j, x, h1, h2, rfl⟩ := hget xs hx k y hy
  obtain ⟨c', hc', hr⟩ := (h.2 i x h1).2 j y h2
  rw [hc] at hc'
  cases hc'
  exact hr

end
end Go.Ev
