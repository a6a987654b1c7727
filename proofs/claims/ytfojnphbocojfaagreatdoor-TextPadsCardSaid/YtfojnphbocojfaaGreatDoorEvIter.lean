/- Iterators, calls, and every operation. -/
import Derived.Test.YtfojnphbocojfaaGreatDoorEvStep
set_option linter.all false
set_option linter.unusedVariables false
set_option linter.unusedSimpArgs false
namespace Go.Ev
open Go Go.RowKit
variable [Glob]

section
variable {P : Program} {base : Nat} {g : Gh} {s : St} {w : World} {a : Act}
variable {dst : Option Tmp} {type : TypeId} {pos : String} {after : Array Edge} {guard : Option (Nat × Bool)}

theorem getLast_loc (hw : WR base g s w) : (g.addLoc w.heap.size).loc[s.heap.length]? = some w.heap.size := by
  simp only [Gh.addLoc]
  rw [← hw.len, List.getElem?_append_right (Nat.le_refl _)]
  simp

theorem range_ok {t : TypeId} {x : Operand} {xv : V} (hw : WR base g s w) (hx : VR g xv (a.eval x)) :
    OpOk P base g w ⟨dst, .range t x, type, pos, after, guard⟩ a (rangeV P t xv s) := by
  unfold rangeV
  split
  · rename_i b hu
    generalize hxv : a.eval x = cx at hx
    cases hx
    rename_i st
    obtain ⟨h1, h2⟩ := hw.alloc (k := .sit st.data.toList 0) (o := .stringIter st 0) ⟨rfl, rfl⟩
    refine .value (c := .pointer (some ⟨w.heap.size, 0, none⟩)) ?_ h2 h1 (.ptr _ _ _ (getLast_loc hw))
    unfold execOp Instr.range
    simp [hxv, run_underlying hu]
  · rename_i kt et id hu
    split
    · rename_i es hb
      obtain ⟨b, ms, hcm, hloc, hm, h3, h4⟩ := map_blk hw hx hb
      have hg : (getObj b).run P w = .ok (.map ms es.length) w := getObj_run hm (fun _ _ _ => by simp)
      obtain ⟨h1, h2⟩ := hw.alloc (k := .mit id es.length (List.range es.length) none) (o := .mapIter (some b) es.length #[] es.length)
        ⟨rfl, rfl, rfl, ⟨b, (g.sub_addLoc _).loc _ _ hloc, rfl⟩, by simp; exact (List.filter_eq_self.2 (fun _ _ => rfl)).symm⟩
      refine .value (c := .pointer (some ⟨w.heap.size, 0, none⟩)) ?_ h2 h1 (.ptr _ _ _ (getLast_loc hw))
      unfold execOp Instr.range
      simp [hcm, run_underlying hu, hg]
    · exact .err
  · exact .err

theorem filter_ne_eraseIdx {l : List Nat} (hn : l.Nodup) {j b : Nat} (h : l[j]? = some b) : l.filter (fun x => !(x == b)) = l.eraseIdx j := by
  induction l generalizing j with
  | nil => simp at h
  | cons x l ih =>
    cases j with
    | zero =>
      simp at h
      subst h
      simp only [List.eraseIdx_cons_zero]
      rw [List.filter_cons_of_neg (by simp)]
      rw [List.filter_eq_self]
      intro y hy
      have := (List.nodup_cons.1 hn).1
      simp
      rintro rfl; exact this hy
    | succ j =>
      simp at h
      have hb : x ≠ b := by
        rintro rfl
        exact (List.nodup_cons.1 hn).1 (List.mem_of_getElem? h)
      rw [List.filter_cons_of_pos (by simpa using hb), List.eraseIdx_cons_succ, ih (List.nodup_cons.1 hn).2 h]

theorem next_ok {it : Operand} {iv : V} {isString : Bool} (hw : WR base g s w) (hi : VR g iv (a.eval it)) :
    OpOk P base g w ⟨dst, .next it isString, type, pos, after, guard⟩ a (nextV iv isString s) := by
  unfold nextV
  split
  · rename_i id
    split
    · rename_i b p hb
      generalize hiv : a.eval it = ci at hi
      cases hi with
      | ptr _ _ bl hl =>
        obtain ⟨o, ho, hr⟩ := hw.blk id _ bl hb hl
        cases o <;> simp only [BR] at hr
        rename_i st p'
        obtain ⟨rfl, rfl⟩ := hr
        have hg : (getObj bl).run P w = .ok (.stringIter st p') w := getObj_run ho (fun _ _ _ => by simp)
        have hs : ∀ o, (setObj bl o).run P w = .ok () (setBlk w bl o) := fun o => setObj_run ho (fun _ _ _ => by simp)
        have hsz : st.size = st.data.toList.length := Lib.size_eq st
        have hst : (⟨st.data.toList.toArray⟩ : ByteArray) = st := by simp
        split
        · rename_i hlt
          rw [← hsz] at hlt
          simp only [hst]
          obtain ⟨c1, c2⟩ := hw.turn hl (k := .sit st.data.toList (p' + (Utf8.decode st p').2)) (o := .stringIter st (p' + (Utf8.decode st p').2)) ⟨rfl, rfl⟩
          refine .value (c := .tuple #[.bool true, .int .i64 p', .int .i32 (Utf8.decode st p').1]) ?_ c2 c1 (.tup _ _ rfl (VRs.cons (.bool true) (VRs.cons (.int _ _) (VRs.singleton (.int _ _)))).2)
          unfold execOp Instr.next
          simp [hiv, hg, hs, hlt, goInt]
        · rename_i hge
          rw [← hsz] at hge
          refine .same hw (c := .tuple #[.bool false]) ?_ (.tup _ _ rfl (VRs.singleton (.bool false)).2)
          unfold execOp Instr.next
          simp [hiv, hg, hge]
    · rename_i m since left last hb
      split
      · rename_i es hes
        split
        · rename_i hlen
          subst hlen
          generalize hiv : a.eval it = ci at hi
          cases hi with
          | ptr _ _ bl hl =>
            obtain ⟨o, ho, hr⟩ := hw.blk id _ bl hb hl
            cases o <;> simp only [BR] at hr
            rename_i m' since' seen stepped
            obtain ⟨hlast, rfl, rfl, ⟨bm, hbm, rfl⟩, hleft⟩ := hr
            obtain ⟨om, hom, hrm⟩ := hw.blk m _ bm hes hbm
            cases om <;> simp only [BR] at hrm
            rename_i ms clock
            obtain ⟨rfl, h3, h4⟩ := hrm
            have hg : (getObj bl).run P w = .ok (.mapIter (some bm) es.length seen es.length) w := getObj_run ho (fun _ _ _ => by simp)
            have hgm : (getObj bm).run P w = .ok (.map ms es.length) w := getObj_run hom (fun _ _ _ => by simp)
            have hs : ∀ o, (setObj bl o).run P w.drew = .ok () (setBlk w.drew bl o) := fun o => setObj_run (w := w.drew) ho (fun _ _ _ => by simp)
            have hs0 : ∀ o, (setObj bl o).run P w = .ok () (setBlk w bl o) := fun o => setObj_run ho (fun _ _ _ => by simp)
            have hborn : ∀ (i : Nat) (m : MapEntry), ms[i]? = some m → m.born = i ∧ i < es.length := by
              intro i me hm
              have hlt : i < es.length := by
                rw [← h3]
                rcases Nat.lt_or_ge i ms.size with h' | h'
                · exact h'
                · rw [Array.getElem?_eq_none h'] at hm; simp at hm
              exact ⟨(h4 i es[i] me (by simp [hlt]) hm).1, hlt⟩
            -- what is left, and which of it is old
            let lf := ms.filter fun e => !seen.contains e.born
            have hold : lf.filter (·.born < es.length) = lf := by
              rw [Array.filter_eq_self]
              intro e he
              have he' : e ∈ ms := (Array.mem_filter.1 he).1
              obtain ⟨i, hi, rfl⟩ := Array.getElem_of_mem he'
              obtain ⟨h1, h2⟩ := hborn i _ (Array.getElem?_eq_getElem hi)
              simp [h1, h2]
            have hnew : lf.filter (·.born ≥ es.length) = #[] := by
              rw [Array.filter_eq_empty_iff]
              intro e he
              have he' : e ∈ ms := (Array.mem_filter.1 he).1
              obtain ⟨i, hi, rfl⟩ := Array.getElem_of_mem he'
              obtain ⟨h1, h2⟩ := hborn i _ (Array.getElem?_eq_getElem hi)
              simp [h1]; omega
            have hmap : ms.toList.map (·.born) = List.range es.length := by
              apply List.ext_getElem?
              intro i
              rw [List.getElem?_map, Array.getElem?_toList]
              by_cases hi : i < es.length
              · have hi' : i < ms.size := by omega
                rw [Array.getElem?_eq_getElem hi', List.getElem?_range hi]
                simp only [Option.map_some, Option.some.injEq]
                exact (hborn i _ (Array.getElem?_eq_getElem hi')).1
              · rw [Array.getElem?_eq_none (by omega), List.getElem?_eq_none (by simp; omega)]; rfl
            have hlf : lf.toList.map (·.born) = left := by
              rw [hleft, ← hmap, List.filter_map]
              simp only [lf, Array.toList_filter]
              rfl
            have hlsz : lf.size = left.length := by rw [← hlf]; simp
            have hbad : (!seen.isEmpty && !ms.isEmpty && ms.all (·.born ≥ es.length)) = false := by
              by_cases he : ms.isEmpty = true
              · simp [he]
              · have h0 : 0 < ms.size := by
                  rcases Nat.eq_zero_or_pos ms.size with h | h
                  · exact absurd (by simpa using h) he
                  · exact h
                have : ms.all (·.born ≥ es.length) = false := by
                  rw [Array.all_eq_false]
                  refine ⟨0, h0, ?_⟩
                  obtain ⟨h1, h2⟩ := hborn 0 _ (Array.getElem?_eq_getElem h0)
                  simp only [h1, ge_iff_le, decide_eq_true_eq]; omega
                simp [this]
            split
            · rename_i hnil
              have hlf0 : lf = #[] := by
                have : lf.size = 0 := by rw [hlsz, hnil]; rfl
                exact Array.eq_empty_of_size_eq_zero this
              refine .same hw (c := .tuple #[.bool false]) ?_ (.tup _ _ rfl (VRs.singleton (.bool false)).2)
              have e1 : (ms.filter fun e => !seen.contains e.born) = #[] := hlf0
              unfold execOp Instr.next
              simp only [hiv, Sem.run_bind, hg, hgm, Result.andThen_ok, hbad, Bool.false_eq_true, if_false, e1]
              simp [Question.forced]
            · rename_i hne
              intro K Kp next Q hall hn hp
              have hpos : 0 < lf.size := by
                rw [hlsz]
                cases left with
                | nil => exact absurd rfl hne
                | cons _ _ => simp
              have hemp : lf.isEmpty = false := by
                simp; intro h; rw [h] at hpos; simp at hpos
              -- which one
              let j := if lf.size ≤ 1 then 0 else (w.tape w.drawn (.mapNext lf.size)) % lf.size
              have hj : j < lf.size := by
                simp only [j]; split
                · exact hpos
                · exact Nat.mod_lt _ hpos
              let w1 := if lf.size ≤ 1 then w else w.drew
              have hw1 : WR base g s w1 ∧ Grow base g g w w1 := by
                simp only [w1]; split
                · exact ⟨hw, .refl _ _ _⟩
                · exact hw.drew
              have hho : w1.heap = w.heap := by simp only [w1]; split <;> rfl
              have hs1 : ∀ o, (setObj bl o).run P w1 = .ok () (setBlk w1 bl o) := fun o => setObj_run (by rw [hho]; exact ho) (fun _ _ _ => by simp)
              have hchoose : (choose (.mapNext lf.size)).run P w = .ok j w1 := by
                simp only [run_choose, Question.forced, Question.cut, j, w1]
                by_cases h1 : lf.size ≤ 1
                · simp [h1]
                · simp [h1]
              have hjl : left[j]? = some lf[j].born := by rw [← hlf]; simp [hj]
              have hmem : lf[j] ∈ ms := (Array.mem_filter.1 (Array.getElem_mem hj)).1
              obtain ⟨i, hi, hie⟩ := Array.getElem_of_mem hmem
              obtain ⟨hb1, hb2⟩ := hborn i _ (Array.getElem?_eq_getElem hi)
              rw [hie] at hb1
              have hji := hall j (by rw [← hlsz]; exact hj)
              simp only at hji
              rw [hjl, hb1] at hji
              simp only [List.getElem?_eq_getElem hb2, Out.all] at hji
              obtain ⟨_, hk1, hk2⟩ := h4 i es[i] lf[j] (by simp [hb2]) (by rw [← hie]; simp)
              have hnd : left.Nodup := by rw [hleft]; exact List.Nodup.sublist List.filter_sublist List.nodup_range
              have hbr : BR g (.mit m es.length (left.eraseIdx j) (some i)) (.mapIter (some bm) es.length (seen.push lf[j].born) es.length) := by
                refine ⟨by rw [hb1]; simp, rfl, rfl, ⟨bm, hbm, rfl⟩, ?_⟩
                rw [← filter_ne_eraseIdx hnd (by rw [hjl]), hleft, List.filter_filter]
                congr 1
                funext x
                simp only [Array.contains_push]
                rw [Bool.eq_iff_iff]
                simp
                constructor
                · rintro ⟨h1, h2⟩; exact ⟨h2, h1⟩
                · rintro ⟨h1, h2⟩; exact ⟨h2, h1⟩
              obtain ⟨c1, c2⟩ := hw1.1.turn hl hbr
              intro ro
              refine wp_value (c := .tuple #[.bool true, lf[j].key, lf[j].val]) (w' := setBlk w1 bl (.mapIter (some bm) es.length (seen.push lf[j].born) es.length)) ?_
                (hn _ _ _ _ _ hji (hw1.2.trans c2) c1 (.tup _ _ rfl (VRs.cons (.bool true) (VRs.cons hk1 (VRs.singleton hk2))).2))
              have e1 : (ms.filter fun e => !seen.contains e.born) = lf := rfl
              have e2 : ((if lf.isEmpty then #[none] else #[]) ++ (lf ++ #[]).map some : Array (Option MapEntry)) = lf.map some := by simp [hemp]
              unfold execOp Instr.next
              simp only [hiv, Sem.run_bind, hg, hgm, Result.andThen_ok, hbad, Bool.false_eq_true, if_false, e1, hold, hnew, e2, Array.size_map, hchoose]
              have e3 : (lf.map some)[j]? = some (some lf[j]) := by simp [hj]
              simp only [e3, Sem.run_bind, hs1, Result.andThen_ok, Sem.run_pure]
        · exact .err
      · exact .err
    · exact .err
  · exact .err

theorem entry_ok {it : Operand} {iv : V} (hw : WR base g s w) (hi : VR g iv (a.eval it)) :
    OpOk P base g w ⟨dst, .entry it, type, pos, after, guard⟩ a (Out.ofOption (entryV iv s) s) := by
  unfold entryV
  split
  · rename_i id
    split
    · rename_i m since left j hb
      split
      · rename_i es hes
        split
        · rename_i hlen
          subst hlen
          cases hej : es[j]? with
          | none => exact .err
          | some p =>
            generalize hiv : a.eval it = ci at hi
            cases hi with
            | ptr _ _ bl hl =>
              obtain ⟨o, ho, hr⟩ := hw.blk id _ bl hb hl
              cases o <;> simp only [BR] at hr
              rename_i m' since' seen stepped
              obtain ⟨hlast, rfl, rfl, ⟨bm, hbm, rfl⟩, hleft⟩ := hr
              obtain ⟨om, hom, hrm⟩ := hw.blk m _ bm hes hbm
              cases om <;> simp only [BR] at hrm
              rename_i ms clock
              obtain ⟨rfl, h3, h4⟩ := hrm
              have hg : (getObj bl).run P w = .ok (.mapIter (some bm) es.length seen es.length) w := getObj_run ho (fun _ _ _ => by simp)
              have hgm : (getObj bm).run P w = .ok (.map ms es.length) w := getObj_run hom (fun _ _ _ => by simp)
              have hjl : j < es.length := by
                rcases Nat.lt_or_ge j es.length with h | h
                · exact h
                · rw [List.getElem?_eq_none h] at hej; simp at hej
              have hjm : j < ms.size := by omega
              obtain ⟨e1, e2, e3⟩ := h4 j p ms[j] hej (by simp [hjm])
              have hfind : ms.find? (fun e => e.born == j) = some ms[j] := by
                rw [← Array.find?_toList, List.find?_eq_some_iff_getElem]
                refine ⟨by simpa using e1, j, by simpa using hjm, by simp, fun i hi => ?_⟩
                have hil : i < es.length := by omega
                have him : i < ms.size := by omega
                obtain ⟨f1, _⟩ := h4 i es[i] ms[i] (by simp [hil]) (by simp [him])
                simp [f1]; omega
              refine .same hw (c := .tuple #[ms[j].key, ms[j].val]) ?_ (.tup _ _ rfl (VRs.cons e2 (VRs.singleton e3)).2)
              unfold execOp Instr.entry
              simp only [hiv, Sem.run_bind, hg, hgm, Result.andThen_ok, hlast, bne_self_eq_false, Bool.false_eq_true, if_false, hfind, Sem.run_pure]
        · exact .err
      · exact .err
    · exact .err
  · exact .err

theorem panic_ok {x : Operand} {xv : V} (hw : WR base g s w) (hx : VR g xv (a.eval x)) :
    OpOk P base g w ⟨dst, .panic x, type, pos, after, guard⟩ a (panicV xv s) := by
  unfold panicV
  split
  · rename_i t v
    generalize hxv : a.eval x = cx at hx
    have hx' := hx
    cases hx
    intro K Kp next Q hall hn hp ro
    refine wp_panic (w' := w) (by rintro c ⟨⟩) ?_ (hp _ _ _ _ _ hall (.refl _ _ _) hw hx')
    unfold execOp Instr.panic
    simp [hxv]
  · exact .err

end
end Go.Ev
