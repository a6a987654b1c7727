/- append, as the evaluator has it. -/
import Derived.Test.YtfojnphbocojfaaGreatDoorEvApp3
set_option linter.all false
set_option linter.unusedVariables false
set_option linter.unusedSimpArgs false
namespace Go.Ev
open Go Go.RowKit
variable [Glob]

section
variable {P : Program} {base : Nat} {g : Gh} {s : St} {w : World} {a : Act}
variable {dst : Option Tmp} {type : TypeId} {pos : String} {after : Array Edge} {guard : Option (Nat × Bool)}

/-- A row of the call's own, as the newest slice of a new stamp. -/
theorem lst_live {n : Nat} {xs : List V} {cs rest : Array Value} {cap : Nat} {e : TypeId} {fz : Nat × Nat} {base : Nat} {g : Gh} {s : St} {w : World} (hw : WR base g s w) (hl : ∀ g', Sub g g' → Lies g' n xs cs) (hcap : xs.length ≤ cap)
    (hrest : rest.size = (cap - xs.length) * n) (hfz : ∀ (o : Nat), o < (cs ++ rest).size → ¬ (fz.1 ≤ o ∧ o < fz.2)) :
    ∃ g', Grow base g g' w (w.alloc (.cells (cs ++ rest) e fz)) ∧ WR base g' { s with live := s.live ++ [(xs.length, n)] } (w.alloc (.cells (cs ++ rest) e fz)) ∧
      VR g' (.lst (.live s.live.length) xs) (.slice (some ⟨w.heap.size, 0, none⟩) xs.length cap) := by
  have hsz : cs.size = xs.length * n := (hl g (Sub.refl g)).1
  obtain ⟨g', a1, a2, a3, a4⟩ := hw.fresh (e := e) (fz := fz) (Upd.push s.live (xs.length, n)) (pre := cs) (rest := rest) hsz hrest hcap hfz
    (fun m sz' hm => by rw [List.getElem?_eq_none (Nat.le_refl _)] at hm; simp at hm)
  refine ⟨g', a1, a2, ?_⟩
  have hl' := hl _ a1.sub
  have hch : ∀ (k : Nat) (v : V) (j : Nat) (y' : V), xs[k]? = some v → v.cells[j]? = some y' → ∃ cc, cs[k * n + j]? = some cc ∧ VR g' y' cc :=
    fun k v j y' hv hj => (hl'.2 k v hv).2 j y' hj
  refine .lst _ _ _ _ _ n (fun k j => cs.getD (k * n + j) undef) hcap (fun e => by simp at e) (fun i' e => ?_) (fun k v hv => (hl'.2 k v hv).1) (fun k v j y' hv hj => ?_) (fun k v j y' hv hj => ?_)
  · simp only [Own.live.injEq] at e
    subst e
    exact a3
  · obtain ⟨cc, hcc, _⟩ := hch k v j y' hv hj
    have hlt : k * n + j < xs.length * n := by
      rcases Nat.lt_or_ge (k * n + j) cs.size with h' | h'
      · rw [hsz] at h'; exact h'
      · rw [Array.getElem?_eq_none h'] at hcc; simp at hcc
    have : g'.C w.heap.size (k * n + j) = cs[k * n + j]? := a4 _ hlt
    rw [Nat.zero_add, this, hcc, Array.getD_eq_getD_getElem?, hcc]; rfl
  · obtain ⟨cc, hcc, hr⟩ := hch k v j y' hv hj
    rw [Array.getD_eq_getD_getElem?, hcc]; exact hr

theorem strBytes_ok {src d e : TypeId} {x : Operand} {b : List UInt8} {mu : Bool} (hw : WR base g s w)
    (hus : P.underlying src = some .string) (hud : P.underlying d = some (.slice e)) (hue : P.underlying e = some (.int .u8)) (hx : VR g (.str b) (a.eval x)) (hlen : b.length ≤ 1099511627776) :
    OpOk P base g w ⟨dst, .convert src d x, type, pos, after, guard⟩ a
      (if mu then .ok (.sl s.heap.length 0 b.length b.length) { s with heap := s.heap ++ [.row e (b.map fun c => .int .u8 c.toNat)] }
       else .ok (.lst (.live s.live.length) (b.map fun c => .int .u8 c.toNat)) { s with live := s.live ++ [(b.length, 1)] }) := by
  generalize hxv : a.eval x = cx at hx
  cases hx with
  | str st =>
    have hsz : st.size = st.data.toList.length := Lib.size_eq st
    let cap := grownCap w st.size 0 e
    have hcap : st.size ≤ cap := grownCap_ge w st.size 0 e
    let cs : Array Value := st.data.map fun b => .int .u8 b.toNat
    let rest : Array Value := Array.replicate (cap - st.size) (.int .u8 0)
    have hcs : cs.size = st.size := by simp [cs]
    have hall : (cs ++ rest).size = cap := by
      simp only [Array.size_append, hcs, rest, Array.size_replicate]; omega
    have hrun : (execOp a.eval ⟨dst, .convert src d x, type, pos, after, guard⟩).run P w =
        .ok (.value (.slice (some ⟨w.heap.size, 0, none⟩) st.size cap)) (w.drew.alloc (.cells (cs ++ rest) e (cap, cap + 1))) := by
      unfold execOp convert
      simp only [hxv, Sem.run_bind, run_underlying hus, run_underlying hud, run_underlying hue, Result.andThen_ok]
      unfold Conv.stringToBytes
      simp only [Sem.run_bind, run_choose, Question.forced, Bool.false_eq_true, if_false, Result.andThen_ok, Go.newRow, run_newObj, Sem.run_pure, markStringish, run_shape]
      have hshape : (World.shape? ({ w with drawn := w.drawn + 1 }.alloc (.cells (cs ++ rest) e)) w.heap.size) = some (e, cap) := by
        unfold World.shape?
        have := alloc_get { w with drawn := w.drawn + 1 } (.cells (cs ++ rest) e) w.heap.size
        rw [this, if_pos rfl]
        simp [hall]
      have hf := freeze_alloc { w with drawn := w.drawn + 1 } (cs ++ rest) e cap
      simp only [cs, rest, cap, grownCap] at hshape hf ⊢
      simp only [World.alloc] at hshape hf ⊢
      simp only [hshape, Sem.run_bind, run_freeze, Result.andThen_ok, hf, Sem.run_pure]
      rfl
    obtain ⟨hwd, hgd⟩ := hw.drew
    have hbl : st.data.toList.length = st.size := hsz.symm
    have hcells : ∀ (i : Nat) (x : V) (y : Value), ((st.data.toList.map fun c => V.int .u8 c.toNat))[i]? = some x → (cs ++ rest)[i]? = some y → VR (g := g) x y ∧ i < cs.size := by
      intro i x y hx hy
      simp only [List.getElem?_map, Option.map_eq_some_iff, Array.getElem?_toList] at hx
      obtain ⟨c, hc, rfl⟩ := hx
      have hlt : i < cs.size := by
        rw [hcs]
        rcases Nat.lt_or_ge i st.data.size with h' | h'
        · exact h'
        · simp [Array.getElem?_eq_none h'] at hc
      rw [Array.getElem?_append_left hlt] at hy
      simp only [cs, Array.getElem?_map, hc, Option.map_some, Option.some.injEq] at hy
      subst hy
      exact ⟨.int _ _, hlt⟩
    cases mu with
    | true =>
      simp only [if_true]
      obtain ⟨h1, h2⟩ := hwd.alloc (k := .row e (st.data.toList.map fun c => V.int .u8 c.toNat)) (o := .cells (cs ++ rest) e (cap, cap + 1))
        ⟨rfl, by rw [hall]; simp; omega, fun i x y hx hy => (hcells i x y hx hy).1.mono (Gh.sub_addLoc _ _), fun o ho ⟨h1, h2⟩ => by simp at ho; simp only at h1 h2; omega⟩
      refine .value hrun (hgd.trans h2) h1 ?_
      rw [hsz]
      refine .sl _ _ _ _ _ _ _ ?_ (Nat.le_refl _) (by rw [← hsz]; exact hcap) fun _ => rfl
      simp only [Gh.addLoc]
      rw [← hw.len, List.getElem?_append_right (Nat.le_refl _)]
      simp
    | false =>
      simp only [Bool.false_eq_true, if_false]
      obtain ⟨g', h1, h2, h3⟩ := lst_live (cap := cap) (n := 1) (xs := st.data.toList.map fun c => V.int .u8 c.toNat) (cs := cs) (e := e) (fz := (cap, cap + 1)) (rest := rest) hwd
        (fun g' hs => ⟨by simp [hcs], fun i x hx => by
          have hx0 := hx
          simp only [List.getElem?_map, Option.map_eq_some_iff, Array.getElem?_toList] at hx
          obtain ⟨c, hc, rfl⟩ := hx
          refine ⟨rfl, fun j y hy => ?_⟩
          cases j with
          | zero =>
            simp only [V.cells, List.getElem?_cons_zero, Option.some.injEq] at hy
            subst hy
            exact ⟨.int .u8 c.toNat, by simp [cs, hc], .int _ _⟩
          | succ j => simp [V.cells] at hy⟩) (by simp; omega) (by simp [rest]) (fun o ho h => by rw [hall] at ho; simp only at h; omega)
      rw [show (st.data.toList.map fun c => V.int .u8 c.toNat).length = st.size by simp] at h3 h2
      rw [hbl]
      exact .value hrun (hgd.trans h1) h2 h3

theorem run_builtin_value {c : Call} {b : Builtin} {x : Value} {w' : World} (hc : c.callee = .builtin b)
    (h : (builtin b c.argTypes type (c.args.map fun | .const _ => true | _ => false) (c.args.map a.eval)).run P w = .ok (.value x) w') :
    (execOp a.eval ⟨dst, .call c, type, pos, after, guard⟩).run P w = .ok (.value x) w' := by
  unfold execOp
  simp only [Sem.run_bind, resolve, hc, Sem.run_pure, Result.andThen_ok, invoke]
  exact h

theorem roomB_spec {e : TypeId} {n : Nat} {i : TypeInfo} (hi : P.info? e = some i) (h : roomB P e n = true) : n * i.bytes ≤ 35184372088832 ∧ n ≤ 35184372088832 := by
  unfold roomB at h
  simp only [Bool.and_eq_true, decide_eq_true_eq] at h
  have hb : bytesT P e = i.bytes := by simp [bytesT, hi]
  rw [hb] at h
  exact h

theorem append_ok {c : Call} {t u : TypeId} {x y : Operand} (hw : WR base g s w) {xv yv : V} (hx : VR g xv (a.eval x)) (hy : VR g yv (a.eval y))
    (hc : c.callee = .builtin .append) (hargs : c.args.toList = [x, y]) (h0 : c.argTypes[0]? = some t) (h1 : c.argTypes[1]? = some u) :
    OpOk P base g w ⟨dst, .call c, type, pos, after, guard⟩ a (appendV P t u xv yv s) := by
  unfold appendV
  split
  · rename_i e hu
    split
    · exact .err
    · exact .err
    · rename_i ag z ys hk hel
      split
      · rename_i hcond
        obtain ⟨hsized, hslicey, hzero⟩ := hcond
        obtain ⟨hlen, news, hnl, hfc⟩ := elemsV_ok hw hk hy hel hsized
        obtain ⟨d, i, hue, hi, hin, _⟩ := kindT_spec hk
        have hargs' : c.args = #[x, y] := by apply Array.toList_inj.1; simpa using hargs
        have c0 : (c.args.map a.eval)[0]? = some (a.eval x) := by rw [hargs']; simp
        have c1 : (c.args.map a.eval)[1]? = some (a.eval y) := by rw [hargs']; simp
        have hall : ∀ x ∈ ys, sizedB P e x = true := fun x hx => List.all_eq_true.1 hsized x hx
        split
        · rename_i o xs
          split
          · rename_i hroom
            obtain ⟨hb, h63⟩ := roomB_spec hi hroom
            have fin : ∀ {v : Value} {w' : World}, (Builtin.append_ c.argTypes type (c.args.map a.eval)).run P w = .ok v w' →
                (execOp a.eval ⟨dst, .call c, type, pos, after, guard⟩).run P w = .ok (.value v) w' := by
              intro v w' h
              refine run_builtin_value hc ?_
              unfold builtin
              simp only [Sem.run_bind, h, Result.andThen_ok, Sem.run_pure]
            split
            · -- nothing is appended
              have hn0 : news = #[] := by
                have := hnl.1
                simp at this
                exact this
              subst hn0
              have key : ∀ (bs : Option Addr) (cap : Nat), a.eval x = .slice bs xs.length cap → xs.length ≤ cap →
                  (Builtin.append_ c.argTypes type (c.args.map a.eval)).run P w = .ok (.slice bs xs.length cap) w := by
                intro bs cap hxv hcap
                rw [hxv] at c0
                have := run_app_in (P := P) (ty := type) (m := 0) (news := #[]) (w' := w) h0 h1 c0 c1 hu hslicey hi (hlen w) (by rw [hin]; exact hfc w (fun _ _ => rfl)) (by simpa using hcap)
                  (by cases bs <;> simp [storeCells])
                simpa using this
              generalize hxv : a.eval x = cx at hx
              cases hx with
              | lnil o ho => exact .same hw (fin (key none 0 hxv (Nat.le_refl _))) (.lnil o ho)
              | lst o xs b off cap sz c' h2 h3 h4 h5 h6 h7 => exact .same hw (fin (key (some ⟨b, off, none⟩) cap hxv h2)) (.lst o xs b off cap sz c' h2 h3 h4 h5 h6 h7)
            · rename_i hne
              have hpos : 0 < ys.length := by
                cases ys with
                | nil => exact absurd rfl (hne)
                | cons _ _ => simp
              have hmul : (xs.length + ys.length) * z = xs.length * z + ys.length * z := Nat.add_mul _ _ _
              have hnone : ∀ x ∈ news.toList, x.oneCell' = true := by
                intro v hv
                obtain ⟨k, hk', rfl⟩ := List.getElem_of_mem hv
                have hks : k < news.size := by simpa using hk'
                rw [hnl.1] at hks
                have hz0 : 0 < z := by
                  rcases Nat.eq_zero_or_pos z with h | h
                  · subst h; simp at hks
                  · exact h
                have hi' : k / z < ys.length := by rw [Nat.div_lt_iff_lt_mul hz0]; exact hks
                have hyi : ys[k / z]? = some ys[k / z] := by simp [hi']
                obtain ⟨hl1, hl2⟩ := hnl.2 _ _ hyi
                have hj : k % z < (ys[k / z]).cells.length := by rw [hl1]; exact Nat.mod_lt _ hz0
                obtain ⟨cc, hcc, hr⟩ := hl2 _ _ (List.getElem?_eq_getElem hj)
                have he : k / z * z + k % z = k := by have := Nat.div_add_mod k z; rw [Nat.mul_comm] at this; exact this
                rw [he] at hcc
                have hgood := sizedB_good (hall _ (List.getElem_mem hi'))
                have := (hr.oneCell (List.all_eq_true.1 (goodB_cells hgood) _ (List.getElem_mem hj))).1
                have e2 : news[k]? = some news.toList[k] := by simp [Array.getElem?_eq_getElem (by rw [hnl.1]; exact hks : k < news.size)]
                rw [e2] at hcc
                simp only [Option.some.injEq] at hcc
                rw [hcc]; exact this
              obtain ⟨zv, hzrun, hzv⟩ : ∃ zv, i.zero = some zv ∧ zv.cells.size = z := by
                cases hzz : zeroT P e with
                | none => simp [hzz] at hzero
                | some q =>
                  simp only [hzz, Option.map_some, Option.some.injEq] at hzero
                  unfold zeroT at hzz
                  rw [hi] at hzz
                  cases hz' : i.zero with
                  | none => simp [hz'] at hzz
                  | some cz =>
                    simp [hz'] at hzz
                    refine ⟨cz, rfl, ?_⟩
                    have := (absV_cells g cz).1
                    rw [hzz] at this
                    omega
              split
              · -- from a slice whose capacity is its length
                split
                · rename_i hxall
                  have hxs : ∀ x ∈ xs, sizedB P e x = true := fun x hx => List.all_eq_true.1 hxall x hx
                  -- the cells of the elder elements
                  obtain ⟨hxl, olds, hol, hof⟩ := elemsV_ok (y := .lst .exact xs) (cy := a.eval x) (ys := xs) hw hk hx rfl hxall
                  have hcap : ∃ bs, a.eval x = .slice bs xs.length xs.length := by
                    generalize hxv : a.eval x = cx at hx
                    cases hx with
                    | lnil o ho => exact ⟨none, rfl⟩
                    | lst o xs b off cap sz c' h2 h3 h4 h5 h6 h7 => have := h3 rfl; subst this; exact ⟨_, rfl⟩
                  obtain ⟨bs, hxv⟩ := hcap
                  rw [hxv] at c0 hof
                  have hgc := grownCap_ge w (xs.length + ys.length) xs.length e
                  have hrun := run_app_out (P := P) (ty := type) (m := ys.length) h0 h1 c0 c1 hu hslicey hi hzrun (hlen w)
                    (by rw [hin]; exact hfc w.drew (fun _ _ => rfl)) (by rw [hin]; exact hof w.drew (fun _ _ => rfl)) (by omega) hb h63
                  obtain ⟨hwd, hgd⟩ := hw.drew
                  have hupd : Upd s.live (s.live ++ [(xs.length + ys.length, z)]) s.live.length (xs.length + ys.length, z) := Upd.push _ _
                  obtain ⟨g', a1, a2, a3, a4⟩ := hwd.fresh (fz := (0, 0)) (cap := grownCap w (xs.length + ys.length) xs.length e) hupd (pre := olds ++ news) (rest := Builtin.zeroCells zv.cells (grownCap w (xs.length + ys.length) xs.length e - (xs.length + ys.length))) (e := e)
                    (by rw [Array.size_append, hol.1, hnl.1, hmul]) (by rw [size_zeroCells, hzv]) hgc (fun o _ h => by simp at h) (fun m sz' hm => by rw [List.getElem?_eq_none (Nat.le_refl _)] at hm; simp at hm)
                  have hsub := (hgd.trans a1).sub
                  refine .value (fin hrun) (hgd.trans a1) a2 ?_
                  have hjoin : Lies g' z (xs ++ ys) (olds ++ news) := by
                    refine ⟨by rw [Array.size_append, hol.1, hnl.1, List.length_append, hmul], fun k v hv => ?_⟩
                    rw [List.getElem?_append] at hv
                    split at hv
                    · obtain ⟨b1, b2⟩ := (hol.mono hsub).2 k v hv
                      refine ⟨b1, fun j y' hj => ?_⟩
                      obtain ⟨cc, hcc, hr⟩ := b2 j y' hj
                      refine ⟨cc, ?_, hr⟩
                      rw [Array.getElem?_append_left]
                      · exact hcc
                      · rcases Nat.lt_or_ge (k * z + j) olds.size with h' | h'
                        · exact h'
                        · rw [Array.getElem?_eq_none h'] at hcc; simp at hcc
                    · rename_i hge
                      obtain ⟨b1, b2⟩ := (hnl.mono hsub).2 _ v hv
                      refine ⟨b1, fun j y' hj => ?_⟩
                      obtain ⟨cc, hcc, hr⟩ := b2 j y' hj
                      refine ⟨cc, ?_, hr⟩
                      have hsplit : k * z = xs.length * z + (k - xs.length) * z := by rw [← Nat.add_mul]; congr 1; omega
                      rw [Array.getElem?_append_right (by rw [hol.1]; omega), hol.1, ← hcc]
                      congr 1; omega
                  have hch : ∀ (k : Nat) (v : V) (j : Nat) (y' : V), (xs ++ ys)[k]? = some v → v.cells[j]? = some y' → ∃ cc, (olds ++ news)[k * z + j]? = some cc ∧ VR g' y' cc :=
                    fun k v j y' hv hj => (hjoin.2 k v hv).2 j y' hj
                  have hll : (xs ++ ys).length = xs.length + ys.length := by simp
                  rw [← hll]
                  rw [← hll] at a3 hgc
                  refine .lst _ _ _ _ _ z (fun k j => (olds ++ news).getD (k * z + j) undef) hgc (fun e => by simp at e) (fun i' e => ?_) (fun k v hv => (hjoin.2 k v hv).1) (fun k v j y' hv hj => ?_) (fun k v j y' hv hj => ?_)
                  · simp only [Own.live.injEq] at e
                    subst e
                    exact a3
                  · obtain ⟨cc, hcc, _⟩ := hch k v j y' hv hj
                    have hlt : k * z + j < (xs.length + ys.length) * z := by
                      rcases Nat.lt_or_ge (k * z + j) (olds ++ news).size with h' | h'
                      · rw [hjoin.1, hll] at h'; exact h'
                      · rw [Array.getElem?_eq_none h'] at hcc; simp at hcc
                    have : g'.C w.heap.size (k * z + j) = (olds ++ news)[k * z + j]? := a4 _ hlt
                    rw [Nat.zero_add, this, hcc, Array.getD_eq_getD_getElem?, hcc]; rfl
                  · obtain ⟨cc, hcc, hr⟩ := hch k v j y' hv hj
                    rw [Array.getD_eq_getD_getElem?, hcc]; exact hr
                · exact .err
              · -- from the newest slice of a stamp
                rename_i i'
                split
                · rename_i hlive
                  obtain ⟨b, off, cap, cs, t', fz, o1, o2, o3, o4, o5, o6, o7, o8⟩ := hw.own i' _ _ hlive
                  have hi'lt : i' < s.live.length := by
                    rcases Nat.lt_or_ge i' s.live.length with h' | h'
                    · exact h'
                    · rw [List.getElem?_eq_none h'] at hlive; simp at hlive
                  have hupd : Upd s.live (s.live.set i' (xs.length + ys.length, z)) i' (xs.length + ys.length, z) := Upd.set _ hi'lt
                  generalize hxv : a.eval x = cx at hx
                  cases hx with
                  | lnil o ho => exact absurd rfl (ho i')
                  | lst o xs b' off' cap' sz c' h2 h3 h4 h5 h6 h7 =>
                    have hsame := h4 i' rfl
                    rw [o1] at hsame
                    simp only [Option.some.injEq, Prod.mk.injEq, Value.slice.injEq, Addr.mk.injEq] at hsame
                    obtain ⟨⟨⟨rfl, rfl, _⟩, _, rfl⟩, rfl⟩ := hsame
                    rw [hxv] at c0
                    have hold := VR.lst (g := g) (.live i') xs b off cap z c' h2 h3 h4 h5 h6 h7
                    by_cases hfit : xs.length + ys.length ≤ cap
                    · -- in place
                      have hnews : news.toList.length = ys.length * z := by simpa using hnl.1
                      obtain ⟨g', a1, a2, a3, a4⟩ := hw.inPlace hupd hlive o1 o2 o3 o4 o5 o7 o8 hnews hpos hfit
                      have hst := storeCells_ok (P := P) b t' fz (off + xs.length * z) news.toList 0 w cs o4 (by
                        rw [o5, hnews]
                        have : (xs.length + ys.length) * z ≤ cap * z := Nat.mul_le_mul_right _ hfit
                        rw [hmul] at this; omega) hnone (fun o _ h2 => o7 o (by
                        have hh : (xs.length + ys.length) * z ≤ cap * z := Nat.mul_le_mul_right _ hfit
                        rw [hmul] at hh; rw [hnews] at h2; rw [o5]; omega))
                      simp only [Nat.add_zero] at hst
                      have hrun := run_app_in (P := P) (ty := type) (m := ys.length) (news := news) (w' := setBlk w b (.cells (setAllC cs (off + xs.length * z) news.toList) t' fz)) h0 h1 c0 c1 hu hslicey hi (hlen w)
                        (by rw [hin]; exact hfc w (fun _ _ => rfl)) hfit (by simp only [hin, add_none]; exact hst)
                      have hsub := a1.sub
                      refine .value (fin hrun) a1 a2 ?_
                      have hll : (xs ++ ys).length = xs.length + ys.length := by simp
                      have hnl' := hnl.mono hsub
                      have hgetN : ∀ (k : Nat) (v : V) (j : Nat) (y' : V), (xs ++ ys)[k]? = some v → v.cells[j]? = some y' → xs.length ≤ k → ∃ cc, news[(k - xs.length) * z + j]? = some cc ∧ VR g' y' cc := by
                        intro k v j y' hv hj hk
                        rw [List.getElem?_append_right hk] at hv
                        exact (hnl'.2 _ v hv).2 j y' hj
                      rw [← hll]
                      rw [← hll] at a3 hfit
                      refine .lst _ _ _ _ _ z (fun k j => if k < xs.length then c' k j else news.getD ((k - xs.length) * z + j) undef) hfit (fun e => by simp at e) (fun i'' e => ?_) (fun k v hv => ?_) (fun k v j y' hv hj => ?_) (fun k v j y' hv hj => ?_)
                      · simp only [Own.live.injEq] at e
                        subst e
                        exact a3
                      · rw [List.getElem?_append] at hv
                        split at hv
                        · exact h5 k v hv
                        · exact (hnl'.2 _ v hv).1
                      · by_cases hk : k < xs.length
                        · rw [if_pos hk]
                          rw [List.getElem?_append_left hk] at hv
                          exact hsub.C _ _ _ (h6 k v j y' hv hj)
                        · rw [if_neg hk]
                          obtain ⟨cc, hcc, _⟩ := hgetN k v j y' hv hj (by omega)
                          have hlt : (k - xs.length) * z + j < ys.length * z := by
                            rcases Nat.lt_or_ge ((k - xs.length) * z + j) news.size with h' | h'
                            · rw [hnl.1] at h'; exact h'
                            · rw [Array.getElem?_eq_none h'] at hcc; simp at hcc
                          have := a4 _ hlt
                          have hsplit : k * z = xs.length * z + (k - xs.length) * z := by rw [← Nat.add_mul]; congr 1; omega
                          rw [Array.getElem?_toList, hcc] at this
                          rw [Array.getD_eq_getD_getElem?, hcc, Option.getD_some, ← this]
                          congr 1; omega
                      · by_cases hk : k < xs.length
                        · rw [if_pos hk]
                          rw [List.getElem?_append_left hk] at hv
                          exact (h7 k v j y' hv hj).mono hsub
                        · rw [if_neg hk]
                          obtain ⟨cc, hcc, hr⟩ := hgetN k v j y' hv hj (by omega)
                          rw [Array.getD_eq_getD_getElem?, hcc]; exact hr
                    · -- in a new block
                      have hgc := grownCap_ge w (xs.length + ys.length) cap e
                      -- the cells of the elder elements
                      have hcn : ∀ (k : Nat), k < xs.length → ∀ (j : Nat), j < z → w.cell? ⟨b, off + k * z + j, none⟩ = some (c' k j) := by
                        intro k hk j hj
                        have hxk : xs[k]? = some xs[k] := by simp [hk]
                        have hl := h5 k _ hxk
                        have := h6 k _ j _ hxk (List.getElem?_eq_getElem (by rw [hl]; exact hj))
                        exact hw.Imm _ _ _ this
                      let olds : Array Value := ((List.range (xs.length * z)).map fun k => c' (k / z) (k % z)).toArray
                      have hos : olds.size = xs.length * z := by simp [olds]
                      have hof : (Builtin.firstCells z xs.length (.slice (some ⟨b, off, none⟩) xs.length cap)).run P w.drew = .ok olds w.drew := by
                        simp only [Builtin.firstCells]
                        refine loadCells_ok w.drew b off _ _ (by simp) fun j d hd => ?_
                        simp only [List.getElem?_map, Option.map_eq_some_iff] at hd
                        obtain ⟨k, hk', rfl⟩ := hd
                        rw [List.getElem?_eq_some_iff] at hk'
                        obtain ⟨hlt, hk'⟩ := hk'
                        have e1 : k = j := by simpa using hk'.symm
                        subst e1
                        have hlt' : k < xs.length * z := by simpa using hlt
                        have hn0 : 0 < z := by
                          rcases Nat.eq_zero_or_pos z with h0 | h0
                          · subst h0; simp at hlt'
                          · exact h0
                        have hi2 : k / z < xs.length := by rw [Nat.div_lt_iff_lt_mul hn0]; exact hlt'
                        have := hcn (k / z) hi2 (k % z) (Nat.mod_lt _ hn0)
                        rw [← this]
                        show w.cell? _ = w.cell? _
                        congr 2
                        have := Nat.div_add_mod k z
                        rw [Nat.mul_comm] at this
                        omega
                      have hrun := run_app_out (P := P) (ty := type) (m := ys.length) h0 h1 c0 c1 hu hslicey hi hzrun (hlen w)
                        (by rw [hin]; exact hfc w.drew (fun _ _ => rfl)) (by rw [hin]; exact hof) (by omega) hb h63
                      obtain ⟨hwd, hgd⟩ := hw.drew
                      obtain ⟨g', a1, a2, a3, a4⟩ := hwd.fresh (fz := (0, 0)) (cap := grownCap w (xs.length + ys.length) cap e) hupd (pre := olds ++ news) (rest := Builtin.zeroCells zv.cells (grownCap w (xs.length + ys.length) cap e - (xs.length + ys.length))) (e := e)
                        (by rw [Array.size_append, hos, hnl.1, hmul]) (by rw [size_zeroCells, hzv]) hgc (fun o _ h => by simp at h) (fun m sz' hm => by rw [hlive] at hm; simp at hm; omega)
                      have hsub := (hgd.trans a1).sub
                      refine .value (fin hrun) (hgd.trans a1) a2 ?_
                      have hnl' := hnl.mono hsub
                      have hll : (xs ++ ys).length = xs.length + ys.length := by simp
                      have hgetA : ∀ (k : Nat) (v : V) (j : Nat) (y' : V), (xs ++ ys)[k]? = some v → v.cells[j]? = some y' → v.cells.length = z ∧ ∃ cc, (olds ++ news)[k * z + j]? = some cc ∧ VR g' y' cc := by
                        intro k v j y' hv hj
                        by_cases hk : k < xs.length
                        · rw [List.getElem?_append_left hk] at hv
                          have hvl := h5 k v hv
                          have hjz : j < z := by
                            rw [← hvl]
                            rcases Nat.lt_or_ge j v.cells.length with h' | h'
                            · exact h'
                            · rw [List.getElem?_eq_none h'] at hj; simp at hj
                          have hb' : k * z + j < xs.length * z := by
                            calc k * z + j < k * z + z := by omega
                              _ = (k + 1) * z := by rw [Nat.add_mul]; simp
                              _ ≤ xs.length * z := Nat.mul_le_mul_right _ hk
                          have e1 : (k * z + j) / z = k := by rw [Nat.mul_comm, Nat.mul_add_div (by omega), Nat.div_eq_of_lt hjz]; rfl
                          have e2 : (k * z + j) % z = j := by rw [Nat.mul_comm, Nat.mul_add_mod, Nat.mod_eq_of_lt hjz]
                          refine ⟨hvl, c' k j, ?_, (h7 k v j y' hv hj).mono hsub⟩
                          rw [Array.getElem?_append_left (by rw [hos]; exact hb')]
                          simp [olds, hb', e1, e2]
                        · rw [List.getElem?_append_right (by omega)] at hv
                          obtain ⟨b1, b2⟩ := hnl'.2 _ v hv
                          obtain ⟨cc, hcc, hr⟩ := b2 j y' hj
                          refine ⟨b1, cc, ?_, hr⟩
                          have hsplit : k * z = xs.length * z + (k - xs.length) * z := by rw [← Nat.add_mul]; congr 1; omega
                          rw [Array.getElem?_append_right (by rw [hos]; omega), hos, ← hcc]
                          congr 1; omega
                      rw [← hll]
                      rw [← hll] at a3 hgc
                      refine .lst _ _ _ _ _ z (fun k j => (olds ++ news).getD (k * z + j) undef) hgc (fun e => by simp at e) (fun i'' e => ?_) (fun k v hv => ?_) (fun k v j y' hv hj => ?_) (fun k v j y' hv hj => ?_)
                      · simp only [Own.live.injEq] at e
                        subst e
                        exact a3
                      · rw [List.getElem?_append] at hv
                        split at hv
                        · exact h5 k v hv
                        · exact (hnl'.2 _ v hv).1
                      · obtain ⟨_, cc, hcc, _⟩ := hgetA k v j y' hv hj
                        have hlt : k * z + j < (xs.length + ys.length) * z := by
                          rcases Nat.lt_or_ge (k * z + j) (olds ++ news).size with h' | h'
                          · rw [Array.size_append, hos, hnl.1] at h'; rw [hmul]; exact h'
                          · rw [Array.getElem?_eq_none h'] at hcc; simp at hcc
                        have : g'.C w.heap.size (k * z + j) = (olds ++ news)[k * z + j]? := a4 _ hlt
                        rw [Nat.zero_add, this, hcc, Array.getD_eq_getD_getElem?, hcc]; rfl
                      · obtain ⟨_, cc, hcc, hr⟩ := hgetA k v j y' hv hj
                        rw [Array.getD_eq_getD_getElem?, hcc]; exact hr
                · exact .err
              · exact .err
          · exact .err
        · exact .err
      · exact .err
  · exact .err

end
end Go.Ev
