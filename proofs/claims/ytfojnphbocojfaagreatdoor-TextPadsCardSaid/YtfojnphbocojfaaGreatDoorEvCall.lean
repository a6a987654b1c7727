/- Calls; every operation; regions; code; functions: the evaluator is sound. -/
import Derived.Test.YtfojnphbocojfaaGreatDoorEvIter
import Derived.LoopN
import Derived.RangeFuncIn
set_option linter.all false
set_option linter.unusedVariables false
set_option linter.unusedSimpArgs false
namespace Go.Ev
open Go Go.RowKit
variable [Glob]

section
variable {P : Program} {base : Nat} {g : Gh} {s : St} {w : World} {a : Act}
variable {dst : Option Tmp} {type : TypeId} {pos : String} {after : Array Edge} {guard : Option (Nat × Bool)}

theorem stripCell_rel {v : V} {c : Value} (h : VR g v c) : VR g (stripCell v) c := by
  unfold stripCell
  split
  · cases h with
    | lnil o ho => exact .lnil _ (fun s => by simp)
    | lst _ _ b off cap sz c h1 h2 h3 h4 h5 h6 => exact .lst _ _ b off cap sz c h1 (fun e => by simp at e) (fun s e => by simp at e) h4 h5 h6
  · exact h

theorem stripFlat_rel {v : V} {c : Value} (h : VR g v c) : VR g (stripFlat v) c := by
  unfold stripFlat
  split
  · cases h with
    | agg cs cs' h1 h2 =>
      refine .agg _ _ (by simpa using h1) fun i x y hx hy => ?_
      simp only [List.getElem?_map, Option.map_eq_some_iff] at hx
      obtain ⟨x', hx', rfl⟩ := hx
      exact stripCell_rel (h2 i x' y hx' hy)
  · exact stripCell_rel h

theorem strip_rel {v : V} {c : Value} (h : VR g v c) : VR g (strip v) c := by
  unfold strip
  split
  · cases h with
    | tup cs cs' h1 h2 =>
      refine .tup _ _ (by simpa using h1) fun i x y hx hy => ?_
      simp only [List.getElem?_map, Option.map_eq_some_iff] at hx
      obtain ⟨x', hx', rfl⟩ := hx
      exact stripFlat_rel (h2 i x' y hx' hy)
  · exact stripFlat_rel h

theorem closedL_get {xs : List V} (h : closedL xs = true) {i : Nat} {x : V} (hx : xs[i]? = some x) : closed x = true := by
  induction xs generalizing i with
  | nil => simp at hx
  | cons y ys ih =>
    simp only [closedL, Bool.and_eq_true] at h
    cases i with
    | zero => simp at hx; subst hx; exact h.1
    | succ i => exact ih h.2 (by simpa using hx)

theorem closed_cells {x : V} (h : closed x = true) {j : Nat} {y : V} (hy : x.cells[j]? = some y) : closed y = true := by
  cases x <;> simp only [V.cells] at hy <;> first
    | exact closedL_get (by simpa [closed] using h) hy
    | (cases j with
       | zero => simp at hy; subst hy; exact h
       | succ j => simp at hy)

/-- A closed value looks at the cells that nothing turns, and at nothing else. -/
theorem VR.closed_mono {g g' : Gh} (hC : ∀ b o v, g.C b o = some v → g'.C b o = some v) {x : V} {y : Value} (h : VR g x y) : closed x = true → VR g' x y := by
  induction h with
  | any v => intro _; exact .any v
  | bool b => intro _; exact .bool b
  | int k n => intro _; exact .int k n
  | str s => intro _; exact .str s
  | nilp => intro _; exact .nilp
  | ptr id off b h => intro hc; simp [closed] at hc
  | eptr x b off c h1 h2 ih =>
    intro hc
    simp only [closed] at hc
    exact .eptr x b off c (fun j y h => hC _ _ _ (h1 j y h)) (fun j y h => ih j y h (closed_cells hc h))
  | lnil o h => intro _; exact .lnil o h
  | lst o xs b off cap sz c h1 h2 h3 h4 h5 h6 ih =>
    intro hc
    have hcl : closedL xs = true ∧ ∀ s, o ≠ .live s := by
      cases o with
      | live s => simp [closed] at hc
      | sealed => simp only [closed] at hc; exact ⟨hc, fun s => by simp⟩
      | exact => simp only [closed] at hc; exact ⟨hc, fun s => by simp⟩
    exact .lst o xs b off cap sz c h1 h2 (fun i e => absurd e (hcl.2 i)) h4 (fun i x j y a b => hC _ _ _ (h5 i x j y a b))
      (fun i x j y a b => ih i x j y a b (closed_cells (closedL_get hcl.1 a) b))
  | sl id off len cap b off' cap' h1 h0 h2 h3 => intro hc; simp [closed] at hc
  | fn f a c a' c' h1 h2 h3 h4 ih1 ih2 =>
    intro hc
    simp only [closed, Bool.and_eq_true] at hc
    exact .fn f a c a' c' h1 h2 (fun i x y hx hy => ih1 i x y hx hy (closedL_get hc.1 hx)) (fun i x y hx hy => ih2 i x y hx hy (closedL_get hc.2 hx))
  | nilf => intro _; exact .nilf
  | yield id b h => intro hc; simp [closed] at hc
  | map id b h => intro hc; simp [closed] at hc
  | nilm => intro _; exact .nilm
  | iface t x y h ih => intro hc; simp only [closed] at hc; exact .iface t x y (ih hc)
  | nili => intro _; exact .nili
  | agg cs cs' h1 h2 ih => intro hc; simp only [closed] at hc; exact .agg cs cs' h1 (fun i x y hx hy => ih i x y hx hy (closedL_get hc hx))
  | tup cs cs' h1 h2 ih => intro hc; simp only [closed] at hc; exact .tup cs cs' h1 (fun i x y hx hy => ih i x y hx hy (closedL_get hc hx))

/-- The caller's relation without its heap. -/
def Gh.bare (g : Gh) : Gh := { loc := [], C := g.C, hist := fun _ _ => none }

theorem WR.bare (h : WR base g s w) : WR w.heap.size g.bare {} w :=
  ⟨rfl, fun i j b h => by simp [Gh.bare] at h, fun i b h => by simp [Gh.bare] at h, Nat.le_refl _, fun i k b h => by simp at h,
   fun b o v hc => ⟨(h.imm b o v hc).1, fun i hi => by simp [Gh.bare] at hi⟩, fun i n sz hl => by simp at hl, fun i n _ => rfl, fun i j n m sz sz' b o c o' c' hl => by simp at hl, ⟨Nat.le_trans h.glob.1 h.room, h.glob.2⟩⟩

/-- Behind a call without the caller's heap. -/
theorem WR.back (h : WR base g s w) {g' : Gh} {s' : St} {w' : World} (hg : Grow w.heap.size g.bare g' w w') (hw : WR w.heap.size g' s' w') :
    WR base { loc := g.loc, C := g'.C, hist := g.hist } s w' ∧ Grow base g { loc := g.loc, C := g'.C, hist := g.hist } w w' := by
  have hblk : ∀ b, b < w.heap.size → w'.heap[b]? = w.heap[b]? := hg.below.block
  have hsub : Sub g { loc := g.loc, C := g'.C, hist := g.hist } := ⟨fun _ _ h => h, fun b o v e => hg.C b o v e, fun _ _ _ h => h⟩
  refine ⟨⟨h.len, h.inj, h.low, Nat.le_trans h.room hg.below.size, ?_, ?_, ?_, h.past, h.apart, ⟨h.glob.1, hw.glob.2⟩⟩, ⟨hsub.loc, hsub.C, ?_, hsub.hist, hg.below.mono h.room⟩⟩
  · intro i k b hk hb
    obtain ⟨o, ho, hr⟩ := h.blk i k b hk hb
    exact ⟨o, by rw [hblk b (lt_of_get ho)]; exact ho, hr.mono hsub⟩
  · intro b o v hc
    refine ⟨(hw.imm b o v hc).1, fun i hi => ?_⟩
    rcases hg.new b o v hc with h' | h'
    · exact (h.imm b o v h').2 i hi
    · have := h.loc_lt (i := i) hi; omega
  · intro i n sz hl
    obtain ⟨b, off, cap, cs, t, fz, h1, h2, h3, h4, h5, h6, h7, h8⟩ := h.own i n sz hl
    have hlt := lt_of_get h4
    refine ⟨b, off, cap, cs, t, fz, h1, h2, h3, by rw [hblk b hlt]; exact h4, h5, h6, h7, fun o ho => ?_⟩
    cases hc : g'.C b o with
    | none => rfl
    | some v =>
      rcases hg.new b o v hc with h' | h'
      · have := h8 o ho; simp only [Gh.bare] at h'; rw [this] at h'; simp at h'
      · omega
  · intro b o v hc
    rcases hg.new b o v hc with h' | h'
    · exact .inl h'
    · exact .inr (Nat.le_trans h.room h')

theorem VRs.strip {xs : List V} {ys : Array Value} (h : VRs g xs ys) : VRs g (xs.map Go.Ev.strip) ys := by
  refine ⟨by simpa using h.1, fun i x y hx hy => ?_⟩
  simp only [List.getElem?_map, Option.map_eq_some_iff] at hx
  obtain ⟨x', hx', rfl⟩ := hx
  exact strip_rel (h.2 i x' y hx' hy)

theorem Post.mono {K K' Kp Kp' : V → St → Prop} (h : ∀ v s, K v s → K' v s) (hp : ∀ v s, Kp v s → Kp' v s) {e : Ending} {w' : World} (hh : Post base g w K Kp e w') : Post base g w K' Kp' e w' := by
  cases e with
  | returned c => obtain ⟨v, s', g', a, b⟩ := hh; exact ⟨v, s', g', h _ _ a, b⟩
  | panicked ch => obtain ⟨v, s', g', c, e, a, b⟩ := hh; exact ⟨v, s', g', c, e, hp _ _ a, b⟩
  | outgrown => exact hh

variable {X : Ctx}

theorem shut_all {K Kp : V → St → Prop} (s : St) : ∀ (x : Out V), (x.shut s).all K Kp → x.all (fun v _ => closed (strip v) = true ∧ K (strip v) s) (fun v _ => closed v = true ∧ Kp v s)
  | .ok v _, h => by
    unfold Out.shut at h
    split at h
    · rename_i hc; exact ⟨hc, h⟩
    · exact h.elim
  | .pan v _, h => by
    unfold Out.shut at h
    split at h
    · rename_i hc; exact ⟨hc, h⟩
    · exact h.elim
  | .err, h => h
  | .choice n k, h => fun i hi => shut_all s (k i) (h i hi)
  | .br t x y, h => ⟨fun e => shut_all s x (h.1 e), fun e => shut_all s y (h.2 e)⟩

theorem headV_ok (hX : CtxOk X) (f : FuncId) : CallOk X.P f (headV X f) ∧ ∀ args s K Kp, (headV X f args s).all K Kp → ∃ fn, X.P.funcs[f]? = some fn ∧ fn.body.isSome = true := by
  cases hext : X.cfg.ext f with
  | some h =>
    have e : headV X f = h := by unfold headV; rw [hext]
    rw [e]
    exact ⟨(hX.ext f h hext).1, fun _ _ _ _ _ => (hX.ext f h hext).2⟩
  | none =>
    have e : headV X f = X.call f := by unfold headV; rw [hext]
    rw [e]
    exact ⟨hX.call f, hX.body f⟩

theorem callV_ok (hX : CtxOk X) (f : FuncId) : CallOk X.P f (fun args s => callV X f args s) ∧ ∀ args s K Kp, (callV X f args s).all K Kp → ∃ fn, X.P.funcs[f]? = some fn ∧ fn.body.isSome = true := by
  obtain ⟨h1, h2⟩ := headV_ok hX f
  constructor
  · intro args s base g w cargs K Kp hw hargs hall
    unfold callV at hall
    simp only at hall
    split at hall
    · split at hall
      · rename_i hcl
        have hall' := shut_all s _ hall
        have hb : VRs g.bare (args.map strip) cargs := by
          have := hargs.strip
          exact ⟨this.1, fun i x y hx hy => VR.closed_mono (g := g) (g' := g.bare) (fun _ _ _ h => h) (this.2 i x y hx hy) (closedL_get hcl hx)⟩
        refine (h1 (args.map strip) {} w.heap.size g.bare w cargs _ _ hw.bare hb hall').mono fun e w' hpost => ?_
        cases e with
        | returned c =>
          obtain ⟨v, s', g', ⟨hc, hK⟩, hg, hw', hv⟩ := hpost
          obtain ⟨h1, h2⟩ := hw.back hg hw'
          exact ⟨strip v, s, _, hK, h2, h1, VR.closed_mono (g := g') (g' := { loc := g.loc, C := g'.C, hist := g.hist }) (fun _ _ _ h => h) (strip_rel hv) hc⟩
        | panicked ch =>
          obtain ⟨v, s', g', c, e, ⟨hc, hK⟩, hg, hw', hv⟩ := hpost
          obtain ⟨h1, h2⟩ := hw.back hg hw'
          exact ⟨v, s, _, c, e, hK, h2, h1, VR.closed_mono (g := g') (g' := { loc := g.loc, C := g'.C, hist := g.hist }) (fun _ _ _ h => h) hv hc⟩
        | outgrown => exact hpost
      · exact hall.elim
    · exact h1 args s base g w cargs K Kp hw hargs hall
  · intro args s K Kp hall
    unfold callV at hall
    split at hall
    · split at hall
      · exact h2 _ _ _ _ (shut_all s _ hall)
      · exact hall.elim
    · exact h2 _ _ _ _ hall

theorem noPan_all {α : Type} {K : α → St → Prop} {Kp : V → St → Prop} : ∀ (x : Out α), x.noPan.all K Kp → x.all K (fun _ _ => False)
  | .ok _ _, h => h
  | .pan _ _, h => h
  | .err, h => h
  | .choice n k, h => fun i hi => noPan_all (k i) (h i hi)
  | .br t x y, h => ⟨fun e => noPan_all x (h.1 e), fun e => noPan_all y (h.2 e)⟩

theorem setParams_ok : ∀ (ps : List Nat) (xs : List V) (ys : List Value) (env : Env) (tmps : Array Value), VRs g env tmps → VRs g xs ys.toArray →
    VRs g (setParams env ps xs) ((ps.zip ys).foldl (fun tmps (t, a) => tmps.setIfInBounds t a) tmps)
  | [], xs, ys, env, tmps, h, _ => by cases xs <;> exact h
  | t :: ps, xs, [], env, tmps, h, hx => by
    have : xs = [] := by have := hx.1; simp at this; exact this
    subst this; exact h
  | t :: ps, [], y :: ys, env, tmps, h, hx => by have := hx.1; simp at this
  | t :: ps, x :: xs, y :: ys, env, tmps, h, hx => by
    simp only [setParams, List.zip_cons_cons, List.foldl_cons]
    refine setParams_ok ps xs ys _ _ (h.set t ?_) ⟨by have := hx.1; simp at this ⊢; exact this, fun i a b ha hb => ?_⟩
    · exact hx.2 0 x y rfl rfl
    · exact hx.2 (i + 1) a b (by simpa using ha) (by simpa using hb)

theorem lp_blk (hw : WR base g s w) {id b : Nat} {st : LoopState} {pend : Option Ex} {fn : FuncId} {env : Env} {ps : List Nat} {asg body : Code} (hl : g.loc[id]? = some b)
    (hb : s.heap[id]? = some (.lp st pend fn env ps asg body)) : ∃ r : Loop, w.heap[b]? = some (.loop r) ∧ BR g (.lp st pend fn env ps asg body) (.loop r) := by
  obtain ⟨o, ho, hr⟩ := hw.blk id _ b hb hl
  cases o <;> simp only [BR] at hr
  exact ⟨_, ho, hr⟩

theorem getLoop_run {b : Nat} {r : Loop} (h : w.heap[b]? = some (.loop r)) : (Instr.getLoop b).run P w = .ok r w := by
  unfold Instr.getLoop
  simp only [Sem.run_bind, getObj_run h (fun _ _ _ => by simp), Result.andThen_ok, Sem.run_pure]

theorem setLoop_run {b : Nat} {r : Loop} (o : Obj) (h : w.heap[b]? = some (.loop r)) : (setObj b o).run P w = .ok () (setBlk w b o) :=
  setObj_run h (fun _ _ _ => by simp)

theorem Grow.loc' {g g' : Gh} {w w' : World} (h : Grow base g g' w w') {id b : Nat} (hb : g.loc[id]? = some b) : g'.loc[id]? = some b := h.loc _ _ hb

/-- A round of a range over a function. -/
theorem roundV_ok (hX : CtxOk X) {id b : Nat} {xs : List V} {cargs : Array Value} (hw : WR base g s w) (hb : g.loc[id]? = some b) (hxs : VRs g xs cargs) {K Kp : V → St → Prop} (h : (roundV X id xs s).all K Kp) :
    ∃ (f : FuncId) (tmps : Array Value) (asg body : Code), (Instr.yield b cargs).run X.P w = .ok (.round b f tmps asg body) w ∧
      ∀ ro, RoundIn (FR ro) (0 - 1) X.P b f tmps asg body w (fun e w' => ∃ v s' g' c, e = .returned c ∧ K v s' ∧ Grow base g g' w w' ∧ WR base g' s' w' ∧ VR g' v c) := by
  unfold roundV at h
  split at h
  · rename_i st pend fn env ps asg body hlp
    split at h
    · rename_i hcond
      obtain ⟨hlen, hc1, hc2⟩ := hcond
      obtain ⟨r, hr, hbr⟩ := lp_blk hw hb hlp
      obtain ⟨q1, q2, q3, q5, q6, q7, q8⟩ := hbr
      subst q6 q7 q8
      refine ⟨r.fn, (r.params.zip cargs).foldl (fun tmps (t, a) => tmps.setIfInBounds t a) r.tmps, r.assign, r.body, ?_, fun ro => ?_⟩
      · unfold Instr.yield
        have hsz : ¬ cargs.size ≠ r.params.size := by
          have := hxs.1
          simp at hlen
          omega
        simp only [Sem.run_bind, getLoop_run hr, Result.andThen_ok, hsz, if_false, Sem.run_pure]
      · refine roundIn_of_wpIn (F := FR ro) (l := b) trivial ?_
        have htm : VRs g (setParams env r.params.toList xs) ((r.params.zip cargs).foldl (fun tmps (t, a) => tmps.setIfInBounds t a) r.tmps) := by
          have := setParams_ok (g := g) r.params.toList xs cargs.toList env r.tmps q5 hxs
          rw [← Array.toList_zip, Array.foldl_toList] at this
          exact this
        have h1 := noPan_all _ (Out.all_bind _ h)
        refine hX.run fn r.assign base g w { tmps := (r.params.zip cargs).foldl (fun tmps (t, a) => tmps.setIfInBounds t a) r.tmps, defers := [] } _ s (some b) hc1 hw htm rfl _ _ _ h1
          (fun e env2 ms2 s2 g2 w2 a2 hK hg hw2 he2 hd => ?_) (fun _ _ _ _ _ _ hf => hf.elim)
        simp only at hK
        split at hK
        · rename_i hnorm
          obtain ⟨hn1, hn2⟩ := hnorm
          subst hn1 hn2
          have hdef : a2.defers = [] := by
            have := hd.1
            exact List.length_eq_zero_iff.1 this.symm
          simp only [Exit.then]
          split at hK
          · rename_i pend2 fn2 env2' ps2 asg2 body2 hlp2
            obtain ⟨r2, hr2, t1, t2, t3, t5, t6, t7, t8⟩ := lp_blk hw2 (hg.loc' hb) hlp2
            obtain ⟨u1, u2⟩ := hw2.turn (hg.loc' hb) (k := .lp .busy pend2 fn2 env2' ps2 asg2 body2) (o := .loop { r2 with state := .busy }) ⟨rfl, t2, t3, t5, t6, t7, t8⟩
            refine ⟨setBlk w2 b (.loop { r2 with state := .busy }), ?_, ?_⟩
            · unfold Instr.beginRound
              simp only [Sem.run_bind, getLoop_run hr2, setLoop_run _ hr2, Result.andThen_ok, t1, Sem.run_pure]
            · have h2 := noPan_all _ (Out.all_bind _ hK)
              have hgg := hg.trans u2
              refine hX.run fn r.body base g2 _ a2 _ _ (some b) hc2 u1 he2 hdef _ _ _ h2 (fun e env3 ms3 s3 g3 w3 a3 hK3 hg3 hw3 he3 hd3 => ?_) (fun _ _ _ _ _ _ hf => hf.elim)
              simp only at hK3
              split at hK3
              · rename_i st3 pend3 fn3 env3' ps3 asg3 body3 hlp3
                have hb3 := hg3.loc' (hgg.loc' hb)
                obtain ⟨r3, hr3, v1, v2, v3, v5, v6, v7, v8⟩ := lp_blk hw3 hb3 hlp3
                have hend : ∀ jump : Option Code, (Instr.endRound b jump).run X.P w3 = .ok (.bool jump.isNone) (setBlk w3 b (.loop { r3 with state := if jump.isNone then .ready else .done, pending := jump })) := by
                  intro jump
                  unfold Instr.endRound
                  simp only [Sem.run_bind, getLoop_run hr3, setLoop_run _ hr3, Result.andThen_ok, Sem.run_pure]
                cases e with
                | norm =>
                  obtain ⟨x1, x2⟩ := hw3.turn hb3 (k := .lp .ready none fn3 env3' ps3 asg3 body3) (o := .loop { r3 with state := .ready, pending := none }) ⟨rfl, rfl, fun _ => nofun, v5, v6, v7, v8⟩
                  exact ⟨_, _, hend none, _, _, _, _, rfl, hK3, (hgg.trans hg3).trans x2, x1, .bool true⟩
                | exit id =>
                  obtain ⟨x1, x2⟩ := hw3.turn hb3 (k := .lp .done (some (.exit id)) fn3 env3' ps3 asg3 body3) (o := .loop { r3 with state := .done, pending := some (.exit id) }) ⟨rfl, rfl, fun e he => by simp at he; subst he; simp, v5, v6, v7, v8⟩
                  exact ⟨_, _, hend (some (.exit id)), _, _, _, _, rfl, hK3, (hgg.trans hg3).trans x2, x1, .bool false⟩
                | ret =>
                  obtain ⟨x1, x2⟩ := hw3.turn hb3 (k := .lp .done (some .ret) fn3 env3' ps3 asg3 body3) (o := .loop { r3 with state := .done, pending := some .ret }) ⟨rfl, rfl, fun e he => by simp at he; subst he; simp, v5, v6, v7, v8⟩
                  exact ⟨_, _, hend (some .ret), _, _, _, _, rfl, hK3, (hgg.trans hg3).trans x2, x1, .bool false⟩
              · exact hK3.elim
          · exact hK.elim
        · exact hK.elim
    · exact h.elim
  · exact h.elim

theorem callFn_ok (hX : CtxOk X) {c : Call} {f : Operand} {fv : V} {xs : List V} (hw : WR base g s w) (hc : c.callee = .value f) (hf : VR g fv (a.eval f)) (hxs : VRs g xs (c.args.map a.eval)) :
    OpOk X.P base g w ⟨dst, .call c, type, pos, after, guard⟩ a (callFn X fv xs s) := by
  cases fv <;> try exact .err
  · rename_i fn first captured
    cases fn <;> try exact .err
    rename_i fid
    intro K Kp next Q hall hn hp ro
    simp only [callFn] at hall
    generalize hfv : a.eval f = cf at hf
    cases hf with
    | fn _ _ _ first' captured' h1 h2 h3 h4 =>
      have hargs : VRs g (first ++ xs ++ captured) (first' ++ c.args.map a.eval ++ captured') := (VRs.append ⟨h1, h3⟩ hxs).append ⟨h2, h4⟩
      obtain ⟨fn, hfn, hbody⟩ := (callV_ok hX fid).2 _ _ _ _ hall
      have hname : (fn.name == "runtime.NumGoroutine") = false := by
        have hmem : fn ∈ X.P.funcs := Array.mem_of_getElem? hfn
        have := Array.all_eq_true_iff_forall_mem.1 hX.names fn hmem
        simpa using this
      have hnone : fn.body.isNone = false := by cases hb : fn.body <;> simp_all
      have hrun : (execOp a.eval ⟨dst, .call c, type, pos, after, guard⟩).run X.P w = .ok (.enter fid (first' ++ c.args.map a.eval ++ captured')) w := by
        unfold execOp
        simp only [Sem.run_bind, resolve, hc, hfv, Deferred.ofValue, Sem.run_pure, Result.andThen_ok, invoke, callFunc, run_program, hfn, hname, hnone, Bool.false_eq_true, if_false]
      refine ⟨fun _ _ => trivial, ?_⟩
      rw [Oper.semAt_eq _ _ _ (by rintro c ⟨⟩), hrun, Oper.uponIn_enter]
      refine ⟨FR_depth ro, ?_⟩
      have hcalls : CallsIn (FR ro) (0 - 1) X.P fid (first' ++ c.args.map a.eval ++ captured') w (Post base g w K Kp) :=
        (callsIn_wide.2 ((callV_ok hX fid).1 _ s base g w _ K Kp hw hargs hall) : CallsIn Fence.wide _ _ _ _ _ _)
      refine hcalls.mono fun e w' hpost => ?_
      cases e with
      | returned v =>
        obtain ⟨v', s', g', hK, hg, hw', hv⟩ := hpost
        exact hn _ _ _ _ _ hK hg hw' hv
      | panicked ch =>
        obtain ⟨v', s', g', c', rfl, hK, hg, hw', hv⟩ := hpost
        exact hp _ _ _ _ _ hK hg hw' hv
      | outgrown => exact hpost.elim
  · rename_i id
    intro K Kp next Q hall hn hp ro
    simp only [callFn] at hall
    generalize hfv : a.eval f = cf at hf
    cases hf with
    | yield _ b hb =>
      obtain ⟨f', tmps, asg, body, hy, hround⟩ := roundV_ok hX hw hb hxs hall
      have hrun : (execOp a.eval ⟨dst, .call c, type, pos, after, guard⟩).run X.P w = .ok (.round b f' tmps asg body) w := by
        unfold execOp
        have e : (#[] ++ Array.map a.eval c.args : Array Value) = Array.map a.eval c.args := by simp
        simp only [Sem.run_bind, resolve, hc, hfv, Deferred.ofValue, Sem.run_pure, Result.andThen_ok, invoke, callFunc, e, hy]
      refine ⟨fun _ _ => trivial, ?_⟩
      rw [Oper.semAt_eq _ _ _ (by rintro c ⟨⟩), hrun, Oper.uponIn_round]
      refine ⟨FR_depth ro, (hround ro).mono fun e w' hpost => ?_⟩
      obtain ⟨v, s', g', c', rfl, hK, hg, hw', hv⟩ := hpost
      exact hn _ _ _ _ _ hK hg hw' hv

/-! ### every operation -/
theorem evOp0_ok (hX : CtxOk X) {region place : Nat} {env : Env} {o : Oper} (hw : WR base g s w) (he : VRs g env a.tmps) : OpOk X.P base g w o a (evOp0 X region place env o.op s) := by
  have hρ := evalO_rel (a := a) he
  unfold evOp0
  simp only
  split
  · rename_i v hv
    obtain ⟨c, hc, hr⟩ := evPure_ok (P := X.P) hρ hv
    exact .same hw (hr w hw.Imm) hc
  · rename_i hnone
    obtain ⟨dst, op, type, pos, after, guard⟩ := o
    simp only at hnone ⊢
    split
    · rename_i e
      split
      · rename_i z hz; exact alloc_ok hw hz
      · exact .err
    · rename_i e x
      split
      · rename_i hg; exact box_ok hw (hρ x) hg
      · exact .err
    · rename_i t len parts
      split
      · rename_i e hu
        split
        · rename_i ag n z hk hz
          split
          · exact .err
          · rename_i hc
            split
            · exact .err
            · rename_i xs hput
              exact buildSlice_ok hw hu hk hz hc (PRs.map hρ _) hput
        · exact .err
      · exact .err
    · rename_i t len cap
      have h1 := hρ len
      have h2 := hρ cap
      split
      · rename_i e kl l kc c hu hl hcp
        rw [hl] at h1
        rw [hcp] at h2
        split
        · rename_i ag n z hk hz
          split
          · rename_i hc
            generalize hlv : a.eval len = cl at h1
            generalize hcv : a.eval cap = cc at h2
            cases h1; cases h2
            exact makeSlice_ok hw hu hk hz hlv hcv hc
          · exact .err
        · exact .err
      · exact .err
    · rename_i src d x
      have h1 := hρ x
      split
      · rename_i e b hus hud hx
        rw [hx] at h1
        split
        · rename_i hue
          split
          · rename_i hlen; exact strBytes_ok hw hus hud hue h1 hlen
          · exact .err
        · exact .err
      · rename_i e id off len cap hus hud hx
        rw [hx] at h1
        split
        · rename_i u cells hue hb
          split
          · rename_i hle
            split
            · rename_i b hby; exact bytesStr_ok hw hus hud hue h1 hb hle hby
            · exact .err
          · exact .err
        · exact .err
      · exact .err
    · exact load_ok hw (hρ _)
    · exact store_ok hw (hρ _) (hρ _)
    · exact makeMap_ok hw
    · exact lookup_ok hw (hρ _) (hρ _)
    · exact mapUpdate_ok (.inl rfl) hw (hρ _) (hρ _) (hρ _)
    · exact mapUpdate_ok (.inr rfl) hw (hρ _) (hρ _) (hρ _)
    · exact range_ok hw (hρ _)
    · exact next_ok hw (hρ _)
    · exact panic_ok hw (hρ _)
    · rename_i c
      split
      · rename_i hc
        split
        · rename_i x y t u hargs h0 h1; exact append_ok hw (hρ _) (hρ _) hc hargs h0 h1
        · exact .err
      · rename_i hc
        split
        · rename_i x t hargs h0; exact lenMap_ok hw (hρ _) hc hargs h0
        · exact .err
      · rename_i f hc
        exact callFn_ok hX hw hc (hρ f) (VRs.map hρ c.args)
      · exact .err
    · unfold evMore
      split
      · exact entry_ok hw (hρ _)
      · exact .err

theorem need_ok {P : Program} {o : Oper} {ρ : Operand → V} {c : Bool} {v : V} (hw : WR base g s w) (hρ : ∀ x, VR g (ρ x) (a.eval x)) (h : c = true → evPure P ρ o.op = some v) : OpOk P base g w o a (need c v s) := by
  intro K Kp next Q hall hn hp ro
  cases c with
  | false => exact (hall.2 rfl).elim
  | true =>
    obtain ⟨cv, hc, hr⟩ := evPure_ok (P := P) hρ (h rfl)
    exact OpOk.same hw (hr w hw.Imm) hc K Kp next Q (hall.1 rfl) hn hp ro

theorem boundsV_of {lo hi : Option V} {n : Nat} {p q : Int} (hp : optInt 0 lo = some p) (hq : optInt n hi = some q) (h1 : 0 ≤ p) (h2 : p ≤ q) (h3 : q ≤ n) : boundsV n n lo hi none = some (p.toNat, q.toNat, n) := by
  have e1 : ∀ v : V, intOf v = some q → boundV v n = some q.toNat := by
    intro v hv
    cases v <;> simp only [intOf, Option.some.injEq] at hv <;> try (cases hv; done)
    subst hv
    simp only [boundV]
    rw [if_pos ⟨by omega, by omega⟩]
  have e2 : ∀ v : V, intOf v = some p → boundV v q.toNat = some p.toNat := by
    intro v hv
    cases v <;> simp only [intOf, Option.some.injEq] at hv <;> try (cases hv; done)
    subst hv
    simp only [boundV]
    rw [if_pos ⟨by omega, by omega⟩]
  cases lo with
  | none =>
    simp only [optInt, Option.some.injEq] at hp
    subst hp
    cases hi with
    | none =>
      simp only [optInt, Option.some.injEq] at hq
      subst hq
      rfl
    | some v =>
      show (match boundV v n with | none => none | some h => some (0, h, n)) = _
      rw [e1 v hq]; rfl
  | some u =>
    cases hi with
    | none =>
      simp only [optInt, Option.some.injEq] at hq
      subst hq
      have := e2 u hp
      simp only [Int.toNat_natCast] at this
      show (match boundV u n with | none => none | some l => some (l, n, n)) = _
      rw [this]; rfl
    | some v =>
      show (match boundV v n with | none => none | some h => match boundV u h with | none => none | some l => some (l, h, n)) = _
      rw [e1 v hq]
      simp only [e2 u hp]

theorem evSym_ok {P : Program} {env : Env} {o : Oper} {r : Out V} (hw : WR base g s w) (he : VRs g env a.tmps) (h : evSym P env o.op s = some r) : OpOk P base g w o a r := by
  have hρ := evalO_rel (a := a) he
  unfold evSym at h
  split at h
  · rename_i t x lo hi hop
    split at h
    · rename_i l hu hx
      split at h
      · rename_i p q hp hq
        simp only [Option.some.injEq] at h
        subst h
        refine need_ok hw hρ fun hc => ?_
        simp only [decide_eq_true_eq] at hc
        obtain ⟨h1, h2, h3⟩ := hc
        rw [hop]
        simp only [evPure, sliceV, hu, hx, Option.map_none, Option.isSome_none, Bool.false_eq_true, if_false]
        have hb : boundsV l.length l.length (lo.map (evalO env)) (hi.map (evalO env)) none = some (p.toNat, q.toNat, l.length) := by
          exact boundsV_of hp hq h1 h2 h3
        simp only [hb]
      · simp at h
    · simp at h
  · rename_i t x ix hop
    split at h
    · rename_i l k i hu hx hix
      simp only [Option.some.injEq] at h
      subst h
      refine need_ok hw hρ fun hc => ?_
      simp only [decide_eq_true_eq] at hc
      rw [hop]
      simp only [evPure, indexV, hu, hx, hix]
      rw [if_pos hc.1]
      have hlt : i.toNat < l.length := by omega
      simp [hlt]
    · simp at h
  · rename_i ty x y ty2 hop
    split at h
    · rename_i p q hx hy
      simp only [Option.some.injEq] at h
      subst h
      refine need_ok hw hρ fun hc => ?_
      simp only [decide_eq_true_eq] at hc
      rw [hop]
      simp only [evPure, binV, hx, hy, strV]
      rw [if_pos hc]
    · simp at h
  · rename_i t x ix hop
    split at h
    · rename_i e ow xs ki i hu hx hix
      split at h
      · rename_i k hk
        split at h
        · rename_i hsz
          simp only [Option.some.injEq] at h
          subst h
          refine need_ok hw hρ fun hc => ?_
          simp only [Bool.and_eq_true, decide_eq_true_eq] at hc
          rw [hop]
          simp only [evPure, indexAddrV, hu, hx, hix]
          rw [if_pos hc.1]
          have h2 := hc.2
          unfold isIntAt at h2
          split at h2
          · rename_i k' n hn
            simp only [decide_eq_true_eq] at h2
            subst h2
            have hsz' : sizedB P e (.int k' n) = true := hsz
            simp only [hn, hsz', if_true, intAt]
          · simp at h2
        · simp at h
      · rename_i hk
        split at h
        · rename_i hsz
          simp only [Option.some.injEq] at h
          subst h
          refine need_ok hw hρ fun hc => ?_
          simp only [Bool.and_eq_true, decide_eq_true_eq] at hc
          rw [hop]
          simp only [evPure, indexAddrV, hu, hx, hix]
          rw [if_pos hc.1]
          have h2 := hc.2
          unfold isStrAt at h2
          split at h2
          · rename_i l hn
            have hsz' : sizedB P e (.str l) = true := hsz
            simp only [hn, hsz', if_true, strAt]
          · simp at h2
        · simp at h
      · simp at h
    · simp at h
  · rename_i ty x y ty2 hop
    split at h
    · rename_i k p k' q hx hy
      split at h
      · rename_i hk
        subst hk
        simp only [Option.some.injEq] at h
        subst h
        refine need_ok hw hρ fun hc => ?_
        simp only [decide_eq_true_eq] at hc
        rw [hop]
        simp only [evPure, binV, hx, hy, if_true, intV]
        rw [if_neg hc]
      · simp at h
    · simp at h
  · rename_i ty x y ty2 hop
    split at h
    · rename_i k p k' q hx hy
      split at h
      · rename_i hk
        subst hk
        simp only [Option.some.injEq] at h
        subst h
        refine need_ok hw hρ fun hc => ?_
        simp only [decide_eq_true_eq] at hc
        rw [hop]
        simp only [evPure, binV, hx, hy, if_true, intV]
        rw [if_neg hc]
      · simp at h
    · simp at h
  · simp at h

theorem toBytes_all : ∀ {xs : List V}, xs.all isByteB = true → toBytes xs = some (xs.map byteOf)
  | [], _ => rfl
  | x :: xs, h => by
    simp only [List.all_cons, Bool.and_eq_true] at h
    have ih := toBytes_all h.2
    have h1 := h.1
    unfold isByteB at h1
    split at h1
    · simp only [toBytes, ih, List.map_cons, byteOf, Option.map_some]
    · simp at h1

theorem symRead_eq {X : Ctx} {region place : Nat} {env : Env} {op : Op} {s : St} {c : Bool} {v : V} (h : symRead X.P env op s = some (c, v)) (hc : c = true) : evOp0 X region place env op s = .ok v s := by
  subst hc
  unfold symRead at h
  split at h
  · rename_i t x ix
    split at h
    · rename_i e id off len cap k i hu hx hix
      split at h
      · rename_i ag z hk
        simp only [Option.some.injEq, Prod.mk.injEq, decide_eq_true_eq] at h
        obtain ⟨hc, rfl⟩ := h
        unfold evOp0
        simp only [evPure, indexAddrV, hu, hx, hix, hk]
        rw [if_pos hc]
      · simp at h
    · simp at h
  · rename_i t a
    split at h
    · rename_i id off ha
      split at h
      · rename_i u cells hb
        split at h
        · rename_i z k hk hu
          simp only [Option.some.injEq, Prod.mk.injEq] at h
          obtain ⟨hc, rfl⟩ := h
          unfold isIntAt at hc
          split at hc
          · rename_i k' n hn
            simp only [decide_eq_true_eq] at hc
            subst hc
            unfold evOp0
            simp only [evPure, loadV, ha, hb, partV, hk, hn, Out.ofOption, intAt]
          · simp at hc
        · rename_i z hk hu
          simp only [Option.some.injEq, Prod.mk.injEq] at h
          obtain ⟨hc, rfl⟩ := h
          unfold isStrAt at hc
          split at hc
          · rename_i l hn
            unfold evOp0
            simp only [evPure, loadV, ha, hb, partV, hk, hn, Out.ofOption, strAt]
          · simp at hc
        · simp at h
      · simp at h
    · simp at h
  · rename_i src dst x
    split at h
    · rename_i e id off len cap hus hud hx
      split at h
      · rename_i u cells hue hb
        simp only [Option.some.injEq, Prod.mk.injEq, Bool.and_eq_true, decide_eq_true_eq] at h
        obtain ⟨⟨h1, h2⟩, rfl⟩ := h
        unfold evOp0
        simp only [evPure, convV, hus, hud, hx, hue, hb]
        rw [if_pos h1]
        simp only [toBytes_all h2]
      · simp at h
    · simp at h
  · simp at h

theorem symStore_eq {X : Ctx} {region place : Nat} {env : Env} {op : Op} {s s' : St} {c : Bool} (h : symStore X.P env op s = some (c, s')) (hc : c = true) : evOp0 X region place env op s = .ok .any s' := by
  subst hc
  unfold symStore at h
  split at h
  · rename_i t a x
    split at h
    · rename_i id off k n ha hx
      split at h
      · rename_i u cells hb
        split at h
        · rename_i hk
          simp only [Option.some.injEq, Prod.mk.injEq, decide_eq_true_eq] at h
          obtain ⟨hc, rfl⟩ := h
          unfold evOp0
          simp only [evPure, storeV, ha, hx, hb]
          rw [if_pos ⟨hk, hc, rfl⟩]
          rfl
        · simp at h
      · simp at h
    · rename_i id off l ha hx
      split at h
      · rename_i u cells hb
        split at h
        · rename_i hk
          simp only [Option.some.injEq, Prod.mk.injEq, decide_eq_true_eq] at h
          obtain ⟨hc, rfl⟩ := h
          unfold evOp0
          simp only [evPure, storeV, ha, hx, hb]
          rw [if_pos ⟨hk, hc, rfl⟩]
          rfl
        · simp at h
      · simp at h
    · simp at h
  · simp at h

theorem OpOk.weaken {P : Program} {o : Oper} {r r' : Out V} (h : OpOk P base g w o a r') (hr : ∀ K Kp, r.all K Kp → r'.all (fun v s => ∃ v', (∀ g c, VR g v c → VR g v' c) ∧ K v' s) Kp) : OpOk P base g w o a r :=
  fun K Kp next Q hall hn hp ro => h _ Kp next Q (hr K Kp hall) (fun v s' g' w' c ⟨v', hv, hK⟩ hg hw hvr => hn v' s' g' w' c hK hg hw (hv _ _ hvr)) hp ro

theorem OpOk.same_out {P : Program} {o : Oper} {r r' : Out V} (h : OpOk P base g w o a r') (hr : ∀ K Kp, r.all K Kp → r'.all K Kp) : OpOk P base g w o a r :=
  fun K Kp next Q hall hn hp ro => h K Kp next Q (hr K Kp hall) hn hp ro

theorem VR.seal {g : Gh} {o : Own} {xs : List V} {c : Value} (h : VR g (.lst o xs) c) : VR g (.lst .sealed xs) c := by
  cases h with
  | lnil o ho => exact .lnil _ (fun s => by simp)
  | lst o xs b off cap sz c' h2 h3 h4 h5 h6 h7 => exact .lst .sealed xs b off cap sz c' h2 (fun e => by simp at e) (fun s e => by simp at e) h5 h6 h7

theorem symLook_all {d : TypeDesc} {k : V} {f : Option V → Out V} {K Kp : V → St → Prop} : ∀ {es : List (V × V)} {r : Out V}, symLook d k f es = some r → r.all K Kp →
    ∃ q, findV d k es = some q ∧ (f (q.map (·.2))).all K Kp
  | [], r, h, hr => by simp only [symLook, Option.some.injEq] at h; subst h; exact ⟨none, rfl, hr⟩
  | (k', v) :: es, r, h, hr => by
    simp only [symLook] at h
    split at h
    · rename_i b hb
      simp only [Option.map_eq_some_iff] at h
      obtain ⟨o, ho, rfl⟩ := h
      cases b with
      | true => exact ⟨some (0, v), by simp [findV, hb], hr.1 rfl⟩
      | false =>
        obtain ⟨q, h1, h2⟩ := symLook_all ho (hr.2 rfl)
        refine ⟨q.map fun p => (p.1 + 1, p.2), by simp [findV, hb, h1], ?_⟩
        cases q <;> simpa using h2
    · simp at h

theorem symAppend_all {P : Program} {t u : TypeId} {x y : V} {s : St} {r : Out V} (h : symAppend P t u x y s = some r) (K Kp : V → St → Prop) (hr : r.all K Kp) : (appendV P t u x y s).all K Kp := by
  unfold symAppend at h
  split at h
  · rename_i e hu
    split at h
    · rename_i ag z o xs ys hk hys
      split at h
      · rename_i hc
        simp only [Option.some.injEq] at h
        subst h
        have hel : elemsV P e y s = some ys := by
          unfold elemsV
          split at hys <;> first | exact hys | simp at hys
        unfold appendV
        simp only [hu, hk, hel]
        cases ys with
        | nil =>
          have h1 := hr.1 rfl
          cases hroom : roomB P e (xs.length + 0) with
          | false => exact (h1.2 (by simpa using hroom)).elim
          | true =>
            have h2 := h1.1 (by simpa using hroom)
            rw [if_pos ⟨by simp, hc.1, hc.2⟩]
            simp only [List.length_nil, hroom, if_true]
            exact h2
        | cons y0 ys0 =>
          have h1 := hr.2 rfl
          cases o with
          | sealed => exact h1.elim
          | exact =>
            have hcond : (roomB P e (xs.length + (y0 :: ys0).length) && (y0 :: ys0).all (sizedB P e) && xs.all (sizedB P e)) = true := by
              cases hb : (roomB P e (xs.length + (y0 :: ys0).length) && (y0 :: ys0).all (sizedB P e) && xs.all (sizedB P e)) with
              | true => rfl
              | false => exact (h1.2 hb).elim
            have h2 := h1.1 hcond
            simp only [Bool.and_eq_true] at hcond
            rw [if_pos ⟨hcond.1.2, hc.1, hc.2⟩]
            simp only [hcond.1.1, if_true, hcond.2]
            exact h2
          | live i =>
            have hcond : (roomB P e (xs.length + (y0 :: ys0).length) && (y0 :: ys0).all (sizedB P e) && decide (s.live[i]? = some (xs.length, z))) = true := by
              cases hb : (roomB P e (xs.length + (y0 :: ys0).length) && (y0 :: ys0).all (sizedB P e) && decide (s.live[i]? = some (xs.length, z))) with
              | true => rfl
              | false => exact (h1.2 hb).elim
            have h2 := h1.1 hcond
            simp only [Bool.and_eq_true, decide_eq_true_eq] at hcond
            rw [if_pos ⟨hcond.1.2, hc.1, hc.2⟩]
            simp only [hcond.1.1, if_true, hcond.2]
            exact h2
      · simp at h
    · simp at h
  · simp at h

theorem evSym2_ok (hX : CtxOk X) {region place : Nat} {env : Env} {o : Oper} {r : Out V} (hw : WR base g s w) (he : VRs g env a.tmps)
    (h : evSym2 X.P (X.cfg.heapy X.self region place) env o.op s = some r) : OpOk X.P base g w o a r := by
  have h0 := evOp0_ok hX (region := region) (place := place) (o := o) hw he
  unfold evSym2 at h
  split at h
  · rename_i t x lo hi hop
    rw [hop] at h0
    split at h
    · rename_i e ow xs hu hx
      split at h
      · rename_i ak p q hk hp hq
        simp only [Option.some.injEq] at h
        subst h
        refine OpOk.weaken h0 fun K Kp hr => ?_
        cases hc : (decide (0 ≤ p ∧ p ≤ q ∧ q ≤ xs.length) && xs.all (sizedB X.P e)) with
        | false => rw [hc] at hr; exact (hr.2 rfl).elim
        | true =>
          rw [hc] at hr
          have hK := hr.1 rfl
          simp only [Bool.and_eq_true, decide_eq_true_eq] at hc
          obtain ⟨⟨h1, h2, h3⟩, h4⟩ := hc
          have hb : boundsV xs.length xs.length (lo.map (evalO env)) (hi.map (evalO env)) none = some (p.toNat, q.toNat, xs.length) := boundsV_of hp hq h1 h2 h3
          unfold evOp0
          simp only [evPure, sliceV, hu, hx, Option.map_none, h4, Bool.not_true, Bool.false_eq_true, if_false, hk, hb, Option.isNone_none, true_and, Option.isSome_none]
          by_cases hfull : p.toNat = 0 ∧ q.toNat = xs.length
          · rw [if_pos hfull]
            refine ⟨_, fun g c hv => hv.seal, ?_⟩
            rw [hfull.1, hfull.2] at hK
            have e0 : (xs.drop 0).take (xs.length - 0) = xs := by simp
            rw [e0] at hK
            exact hK
          · rw [if_neg hfull]
            exact ⟨_, fun g c hv => hv.seal, hK⟩
      · simp at h
    · simp at h
  · rename_i src dst x hop
    rw [hop] at h0
    split at h
    · rename_i e b hus hud hx
      split at h
      · rename_i hue
        split at h
        · rename_i hhp
          simp only [Option.some.injEq] at h
          subst h
          refine OpOk.same_out h0 fun K Kp hr => ?_
          cases hc : (decide (b.length ≤ 1099511627776)) with
          | false => rw [hc] at hr; exact (hr.2 rfl).elim
          | true =>
            rw [hc] at hr
            have hK := hr.1 rfl
            simp only [decide_eq_true_eq] at hc
            unfold evOp0
            simp only [evPure, convV, hus, hud, hx, hue, if_pos hc, hhp, if_true]
            exact hK
        · rename_i hhp
          simp only [Option.some.injEq] at h
          subst h
          refine OpOk.same_out h0 fun K Kp hr => ?_
          cases hc : (decide (b.length ≤ 1099511627776)) with
          | false => rw [hc] at hr; exact (hr.2 rfl).elim
          | true =>
            rw [hc] at hr
            have hK := hr.1 rfl
            simp only [decide_eq_true_eq] at hc
            unfold evOp0
            simp only [evPure, convV, hus, hud, hx, hue, if_pos hc, hhp, Bool.false_eq_true, if_false]
            exact hK
      · simp at h
    · rename_i e ow xs hus hud hx
      split at h
      · rename_i hue
        simp only [Option.some.injEq] at h
        subst h
        refine OpOk.same_out h0 fun K Kp hr => ?_
        cases hc : (xs.all isByteB) with
        | false => rw [hc] at hr; exact (hr.2 rfl).elim
        | true =>
          rw [hc] at hr
          have hK := hr.1 rfl
          unfold evOp0
          simp only [evPure, convV, hus, hud, hx, hue, toBytes_all hc, Option.map_some]
          exact hK
      · simp at h
    · simp at h
  · rename_i t m k ok hop
    rw [hop] at h0
    split at h
    · rename_i kt et hu
      split at h
      · rename_i d es z hd hes hz
        split at h
        · rename_i hkb
          refine OpOk.same_out h0 fun K Kp hr => ?_
          obtain ⟨q, h1, h2⟩ := symLook_all h hr
          unfold evOp0
          simp only [evPure, lookupV, hu, hd, hes, hkb, if_true, h1]
          cases q with
          | none => simp only [hz]; exact h2
          | some p => exact h2
        · simp at h
      · simp at h
    · simp at h
  · rename_i it hop
    rw [hop] at h0
    split at h
    · rename_i id hit
      split at h
      · rename_i b pos hb
        simp only [Option.some.injEq] at h
        subst h
        refine OpOk.same_out h0 fun K Kp hr => ?_
        unfold evOp0
        simp only [evPure, nextV, hit, hb]
        by_cases hp : pos < b.length
        · rw [if_pos hp]; exact hr.1 (by simpa using hp)
        · rw [if_neg hp]; exact hr.2 (by simpa using hp)
      · simp at h
    · simp at h
  · rename_i c hop
    rw [hop] at h0
    split at h
    · rename_i hcal
      split at h
      · rename_i x y t u hargs ht0 ht1
        refine OpOk.same_out h0 fun K Kp hr => ?_
        unfold evOp0
        simp only [evPure, hcal, hargs, ht0, ht1, builtinV]
        exact symAppend_all h K Kp hr
      · simp at h
    · simp at h
  · simp at h

theorem evOp_ok (hX : CtxOk X) {region place : Nat} {env : Env} {o : Oper} (hw : WR base g s w) (he : VRs g env a.tmps) : OpOk X.P base g w o a (evOp X region place env o.op s) := by
  unfold evOp
  have h0 := evOp0_ok hX (region := region) (place := place) (o := o) hw he
  split
  · split
    · rename_i c v hr
      have hr : symRead X.P env o.op s = some (c, v) := by
        split at hr
        · exact hr
        · simp at hr
      refine OpOk.same_out h0 fun K Kp hall => ?_
      cases c with
      | true => rw [symRead_eq hr rfl]; exact hall.1 rfl
      | false => exact (hall.2 rfl).elim
    · split
      · rename_i c s' hr
        have hr : symStore X.P env o.op s = some (c, s') := by
          split at hr
          · exact hr
          · simp at hr
        refine OpOk.same_out h0 fun K Kp hall => ?_
        cases c with
        | true => rw [symStore_eq hr rfl]; exact hall.1 rfl
        | false => exact (hall.2 rfl).elim
      · split
        · rename_i r hr; exact evSym_ok hw he hr
        · split
          · rename_i r hr; exact evSym2_ok hX hw he hr
          · exact h0
  · exact h0

end
end Go.Ev
