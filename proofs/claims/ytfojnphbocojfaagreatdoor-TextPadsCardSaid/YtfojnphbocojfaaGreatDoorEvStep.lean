/- Maps and iterators. -/
import Derived.Test.YtfojnphbocojfaaGreatDoorEvApp4
set_option linter.all false
set_option linter.unusedVariables false
set_option linter.unusedSimpArgs false
namespace Go.Ev
open Go Go.RowKit
variable [Glob]

section
variable {P : Program} {base : Nat} {g : Gh} {s : St} {w : World} {a : Act}
variable {dst : Option Tmp} {type : TypeId} {pos : String} {after : Array Edge} {guard : Option (Nat × Bool)}

/-! ### maps -/
theorem sameV_ok {d : TypeDesc} {k k' : V} {ck ck' : Value} {b : Bool} (hk : VR g k ck) (hk' : VR g k' ck') (h : sameV d k k' = some b) :
    Instr.sameNow d ck ck' = some b ∧ (b = true → Instr.sameBits 10000 ck' ck = true) := by
  unfold sameV at h
  split at h
  · cases hk; cases hk'
    split at h
    · rename_i e
      subst e
      simp only [Option.some.injEq] at h
      subst h
      refine ⟨by simp [Instr.sameNow], fun hb => ?_⟩
      simp at hb
      subst hb
      simp [Instr.sameBits]
    · simp at h
  · cases hk; cases hk'
    rename_i x y
    simp only [Option.some.injEq] at h
    subst h
    refine ⟨by simp [Instr.sameNow, beq_bytes], fun hb => ?_⟩
    unfold Instr.sameBits
    simp only [beq_bytes]
    simp at hb ⊢
    exact hb.symm
  · cases hk; cases hk'
    simp only [Option.some.injEq] at h
    subst h
    refine ⟨by simp [Instr.sameNow], fun hb => ?_⟩
    simp at hb
    subst hb
    simp [Instr.sameBits]
  · simp at h

theorem findV_ok {d : TypeDesc} {k : V} {ck : Value} (hk : VR g k ck) : ∀ {es : List (V × V)} {ms : List MapEntry} {r : Option (Nat × V)} (n : Nat), es.length = ms.length →
    (∀ (i : Nat) (e : V × V) (m : MapEntry), es[i]? = some e → ms[i]? = some m → VR g e.1 m.key ∧ VR g e.2 m.val) → findV d k es = some r →
    match r with
    | none => Instr.findNow d ck ms n = some none
    | some (i, v) => ∃ m, ms[i]? = some m ∧ VR g v m.val ∧ Instr.findNow d ck ms n = some (some (i + n, m.val)) ∧ Instr.sameBits 10000 m.key ck = true
  | [], [], r, n, _, _, h => by
    simp only [findV, Option.some.injEq] at h
    subst h
    rfl
  | [], m :: ms, _, _, hl, _, _ => by simp at hl
  | e :: es, [], _, _, hl, _, _ => by simp at hl
  | (k', v) :: es, m :: ms, r, n, hl, hr, h => by
    obtain ⟨h1, h2⟩ := hr 0 (k', v) m rfl rfl
    simp only [findV] at h
    split at h
    · rename_i hs
      simp only [Option.some.injEq] at h
      subst h
      obtain ⟨a1, a2⟩ := sameV_ok hk h1 hs
      exact ⟨m, rfl, h2, by simp [Instr.findNow, a1], a2 rfl⟩
    · rename_i hs
      obtain ⟨a1, _⟩ := sameV_ok hk h1 hs
      simp only [Option.map_eq_some_iff] at h
      obtain ⟨q, hq, rfl⟩ := h
      have ih := findV_ok hk (n + 1) (by simpa using hl) (fun i e m a b => hr (i + 1) e m (by simpa using a) (by simpa using b)) hq
      cases q with
      | none =>
        simp only [Option.map_none] at ih ⊢
        simp [Instr.findNow, a1, ih]
      | some p =>
        obtain ⟨i, v'⟩ := p
        simp only [Option.map_some] at ih ⊢
        obtain ⟨m', b1, b2, b3, b4⟩ := ih
        refine ⟨m', by simpa using b1, b2, ?_, b4⟩
        simp only [Instr.findNow, a1, b3]
        congr 3; omega
    · simp at h

theorem keyB_check {d : TypeDesc} {kt : TypeId} {k : V} {ck : Value} (hd : P.underlying kt = some d) (hk : VR g k ck) (h : keyB d k = true) (b : Bool) (n : Nat) (w : World) :
    (Instr.checkKey b (n + 1) kt ck).run P w = .ok () w := by
  unfold keyB at h
  split at h <;> (try simp at h) <;> cases hk <;> simp [Instr.checkKey, run_underlying hd]

theorem run_findKey {d : TypeDesc} {kt : TypeId} {ck : Value} {ms : List MapEntry} {r : Option (Nat × Value)} (hd : P.underlying kt = some d) (h : Instr.findNow d ck ms 0 = some r) (w : World) :
    (Instr.findKey kt ck ms).run P w = .ok r w := by
  simp [Instr.findKey, run_underlying hd, h]

theorem getObj_run {r : Nat} {o : Obj} (h : w.heap[r]? = some o) (hn : ∀ c t f, o ≠ .cells c t f) : (getObj r).run P w = .ok o w := by
  cases o with
  | cells c t f => exact absurd rfl (hn c t f)
  | _ => simp [getObj, Sem.run, h]

theorem setObj_run {r : Nat} {o o' : Obj} (h : w.heap[r]? = some o) (hn : ∀ c t f, o ≠ .cells c t f) : (setObj r o').run P w = .ok () (setBlk w r o') := by
  cases o with
  | cells c t f => exact absurd rfl (hn c t f)
  | _ => simp [setObj, Sem.run, h, setBlk]

theorem map_blk (hw : WR base g s w) {id : Nat} {es : List (V × V)} {cm : Value} (hm : VR g (.map id) cm) (hb : s.heap[id]? = some (.mp es)) :
    ∃ b ms, cm = .map (some b) ∧ g.loc[id]? = some b ∧ w.heap[b]? = some (.map ms es.length) ∧ ms.size = es.length ∧
      ∀ (i : Nat) (e : V × V) (m : MapEntry), es[i]? = some e → ms[i]? = some m → m.born = i ∧ VR g e.1 m.key ∧ VR g e.2 m.val := by
  cases hm with
  | map _ b hl =>
    obtain ⟨o, ho, hr⟩ := hw.blk id _ b hb hl
    cases o <;> simp only [BR] at hr
    rename_i ms clock
    obtain ⟨rfl, h2, h3⟩ := hr
    exact ⟨b, ms, rfl, hl, ho, h2, h3⟩

def lookRes (ok : Bool) (z : Value) : Option (Nat × Value) → Value
  | some (_, v) => if ok then .tuple #[v, .bool true] else v
  | none => if ok then .tuple #[z, .bool false] else z

theorem run_lookup {t kt et : TypeId} {cm ck : Value} {ms : Array MapEntry} {ok : Bool} {r : Option (Nat × Value)} {z : Value} (hu : P.underlying t = some (.map kt et))
    (hcm : (cm = .map none ∧ ms = #[]) ∨ ∃ b clock, cm = .map (some b) ∧ w.heap[b]? = some (.map ms clock))
    (hck : (Instr.checkKey ms.isEmpty 10000 kt ck).run P w = .ok () w) (hf : (Instr.findKey kt ck ms.toList).run P w = .ok r w) (hz : r = none → (zeroValue et).run P w = .ok z w) :
    (Instr.lookup t cm ck ok).run P w = .ok (lookRes ok z r) w := by
  have hg : ∀ b clock, w.heap[b]? = some (.map ms clock) → (getObj b).run P w = .ok (.map ms clock) w := fun b clock h => getObj_run h (fun _ _ _ => by simp)
  rcases hcm with ⟨rfl, rfl⟩ | ⟨b, clock, rfl, hb⟩
  · cases r with
    | none => have hz := hz rfl; unfold Instr.lookup; simp only [Array.isEmpty_empty] at hck; simp [run_underlying hu, hck, hf, hz, lookRes]
    | some p => unfold Instr.lookup; simp only [Array.isEmpty_empty] at hck; simp [run_underlying hu, hck, hf, lookRes]
  · cases r with
    | none => have hz := hz rfl; unfold Instr.lookup; simp [run_underlying hu, hg b clock hb, hck, hf, hz, lookRes]
    | some p => unfold Instr.lookup; simp [run_underlying hu, hg b clock hb, hck, hf, lookRes]

theorem lookup_ok {t : TypeId} {m k : Operand} {mv kv : V} {ok : Bool} (hw : WR base g s w) (hm : VR g mv (a.eval m)) (hk : VR g kv (a.eval k)) :
    OpOk P base g w ⟨dst, .lookup t m k ok, type, pos, after, guard⟩ a (.ofOption (lookupV P t mv kv ok s) s) := by
  cases h : lookupV P t mv kv ok s with
  | none => exact .err
  | some v =>
    unfold lookupV at h
    split at h
    · rename_i kt et hu
      split at h
      · rename_i d es hd hes
        split at h
        · rename_i hkey
          -- the entries
          have hent : ∃ ms : Array MapEntry, ms.size = es.length ∧ (∀ (i : Nat) (e : V × V) (m : MapEntry), es[i]? = some e → ms[i]? = some m → VR g e.1 m.key ∧ VR g e.2 m.val) ∧
              ((a.eval m = .map none ∧ ms = #[]) ∨ ∃ b clock, a.eval m = .map (some b) ∧ w.heap[b]? = some (.map ms clock)) := by
            unfold entriesV at hes
            split at hes
            · simp only [Option.some.injEq] at hes
              subst hes
              generalize a.eval m = cm at hm
              cases hm
              exact ⟨#[], rfl, fun i e m h => by simp at h, .inl ⟨rfl, rfl⟩⟩
            · rename_i id
              split at hes
              · rename_i es' hb
                simp only [Option.some.injEq] at hes
                subst hes
                obtain ⟨b, ms, hcm, _, h2, h3, h4⟩ := map_blk hw hm hb
                exact ⟨ms, h3, fun i e m a b => (h4 i e m a b).2, .inr ⟨b, _, hcm, h2⟩⟩
              · simp at hes
            · simp at hes
          obtain ⟨ms, hms, hrel, hcm⟩ := hent
          have hck := keyB_check (P := P) hd hk hkey ms.isEmpty 9999 w
          have exec : ∀ {r : Option (Nat × Value)} {z : Value}, Instr.findNow d (a.eval k) ms.toList 0 = some r → (r = none → (zeroValue et).run P w = .ok z w) →
              (execOp a.eval ⟨dst, .lookup t m k ok, type, pos, after, guard⟩).run P w = .ok (.value (lookRes ok z r)) w := by
            intro r z hf hz
            unfold execOp
            simp only [Sem.run_bind, run_lookup (ok := ok) hu hcm hck (run_findKey hd hf w) hz, Result.andThen_ok, Sem.run_pure]
          have hfr := fun r (hr : findV d kv es = some r) => findV_ok hk (ms := ms.toList) 0 (by simp [hms]) (fun i e m a b => hrel i e m a (by simpa using b)) hr
          split at h
          · simp at h
          · rename_i i v' hf
            obtain ⟨me, b1, b2, b3, _⟩ := hfr _ hf
            simp only [Option.some.injEq] at h
            subst h
            refine .same hw (exec (z := .nilIface) b3 (fun h => by simp at h)) ?_
            cases ok with
            | true =>
              simp only [if_true]
              exact .tup _ _ rfl (VRs.cons b2 (VRs.singleton (.bool true))).2
            | false => simpa [lookRes] using b2
          · rename_i hf
            have b3 := hfr _ hf
            split at h
            · rename_i z hz
              simp only [Option.some.injEq] at h
              subst h
              obtain ⟨cz, hzr, rfl⟩ := zeroT_spec hz
              refine .same hw (exec (z := cz) b3 (fun _ => hzr w)) ?_
              cases ok with
              | true =>
                simp only [if_true]
                exact .tup _ _ rfl (VRs.cons (absV_rel g cz) (VRs.singleton (.bool false))).2
              | false => simpa [lookRes] using absV_rel g cz
            · simp at h
        · simp at h
      · simp at h
    · simp at h

theorem run_update_new {t kt et : TypeId} {b : Nat} {ck cx : Value} {ms : Array MapEntry} {clock : Nat} (hu : P.underlying t = some (.map kt et))
    (hb : w.heap[b]? = some (.map ms clock)) (hck : (Instr.checkKey false 10000 kt ck).run P w = .ok () w) (hf : (Instr.findKey kt ck ms.toList).run P w = .ok none w) :
    (Instr.mapUpdate t (.map (some b)) ck cx).run P w = .ok () (setBlk w b (.map (ms.push { key := ck, val := cx, born := clock }) (clock + 1))) := by
  have hg : (getObj b).run P w = .ok (.map ms clock) w := getObj_run hb (fun _ _ _ => by simp)
  have hs : ∀ o, (setObj b o).run P w = .ok () (setBlk w b o) := fun o => setObj_run hb (fun _ _ _ => by simp)
  unfold Instr.mapUpdate
  simp [run_underlying hu, hg, hck, hf, hs]

theorem run_update_old {t kt et : TypeId} {b : Nat} {ck cx : Value} {ms : Array MapEntry} {clock i : Nat} {v : Value} {me : MapEntry} (hu : P.underlying t = some (.map kt et))
    (hb : w.heap[b]? = some (.map ms clock)) (hck : (Instr.checkKey false 10000 kt ck).run P w = .ok () w) (hf : (Instr.findKey kt ck ms.toList).run P w = .ok (some (i, v)) w)
    (hi : ms[i]? = some me) (hsb : Instr.sameBits 10000 me.key ck = true) :
    (Instr.mapUpdate t (.map (some b)) ck cx).run P w = .ok () (setBlk w b (.map (ms.modify i fun e => { e with key := ck, val := cx }) clock)) := by
  have hg : (getObj b).run P w = .ok (.map ms clock) w := getObj_run hb (fun _ _ _ => by simp)
  have hs : ∀ o, (setObj b o).run P w = .ok () (setBlk w b o) := fun o => setObj_run hb (fun _ _ _ => by simp)
  unfold Instr.mapUpdate
  simp [run_underlying hu, hg, hck, hf, hs, Instr.keyThatStays, hi, hsb]

theorem mapUpdate_ok {t : TypeId} {m k x : Operand} {mv kv xv : V} {op : Op} (hop : op = .mapUpdate t m k x ∨ op = .insert t m k x) (hw : WR base g s w) (hm : VR g mv (a.eval m)) (hk : VR g kv (a.eval k)) (hx : VR g xv (a.eval x)) :
    OpOk P base g w ⟨dst, op, type, pos, after, guard⟩ a (match updateV P t mv kv xv s with | some s' => .ok .any s' | none => .err) := by
  cases h : updateV P t mv kv xv s with
  | none => exact .err
  | some s' =>
    simp only
    unfold updateV at h
    split at h
    · rename_i kt et id hu
      split at h
      · rename_i d es hd hb
        split at h
        · rename_i hkey
          obtain ⟨b, ms, hcm, hloc, h2, h3, h4⟩ := map_blk hw hm hb
          have hck := keyB_check (P := P) hd hk hkey false 9999 w
          have hfr := fun r (hr : findV d kv es = some r) => findV_ok hk (ms := ms.toList) 0 (by simp [h3]) (fun i e m a b => (h4 i e m a (by simpa using b)).2) hr
          have fin : ∀ {w' : World}, (Instr.mapUpdate t (a.eval m) (a.eval k) (a.eval x)).run P w = .ok () w' → (execOp a.eval ⟨dst, op, type, pos, after, guard⟩).run P w = .ok .skip w' := by
            intro w' hr
            rcases hop with rfl | rfl <;> (unfold execOp; simp only [Sem.run_bind, hr, Result.andThen_ok, Sem.run_pure])
          split at h
          · simp at h
          · rename_i i v' hf
            obtain ⟨me, b1, b2, b3, b4⟩ := hfr _ hf
            simp only [Option.some.injEq] at h
            subst h
            have b1' : ms[i]? = some me := by simpa using b1
            have hrun := run_update_old (P := P) (cx := a.eval x) hu h2 hck (run_findKey hd b3 w) b1' b4
            rw [← hcm] at hrun
            simp only [Nat.add_zero] at hrun
            have hbr : BR g (.mp (es.set i (kv, xv))) (.map (ms.modify i fun e => { e with key := a.eval k, val := a.eval x }) es.length) := by
              refine ⟨by simp, by simp [h3], fun j e e' he he' => ?_⟩
              rw [List.getElem?_set] at he
              rw [Array.getElem?_modify] at he'
              by_cases ej : i = j
              · subst ej
                have hlt : i < es.length := by
                  rw [← h3]
                  rcases Nat.lt_or_ge i ms.size with h' | h'
                  · exact h'
                  · rw [Array.getElem?_eq_none h'] at b1'; simp at b1'
                simp [hlt] at he
                simp [b1'] at he'
                subst he; subst he'
                refine ⟨?_, hk, hx⟩
                exact (h4 i _ me (List.getElem?_eq_getElem hlt) b1').1
              · rw [if_neg ej] at he he'
                exact h4 j e e' he he'
            obtain ⟨c1, c2⟩ := hw.turn hloc hbr
            exact .skip (fin hrun) c2 c1
          · rename_i hf
            have b3 := hfr _ hf
            simp only [Option.some.injEq] at h
            subst h
            have hrun := run_update_new (P := P) (cx := a.eval x) hu h2 hck (run_findKey hd b3 w)
            rw [← hcm] at hrun
            have hbr : BR g (.mp (es ++ [(kv, xv)])) (.map (ms.push { key := a.eval k, val := a.eval x, born := es.length }) (es.length + 1)) := by
              refine ⟨by simp, by simp [h3], fun j e e' he he' => ?_⟩
              rw [List.getElem?_append] at he
              rw [Array.getElem?_push] at he'
              by_cases ej : j = es.length
              · subst ej
                rw [if_pos (by omega)] at he'
                simp at he he'
                subst he; subst he'
                exact ⟨rfl, hk, hx⟩
              · rw [if_neg (by omega)] at he'
                split at he
                · exact h4 j e e' he he'
                · rw [List.getElem?_eq_none (by simp; omega)] at he; simp at he
            obtain ⟨c1, c2⟩ := hw.turn hloc hbr
            exact .skip (fin hrun) c2 c1
        · simp at h
      · simp at h
    · simp at h

theorem makeMap_ok {t : TypeId} (hw : WR base g s w) :
    OpOk P base g w ⟨dst, .makeMap t none, type, pos, after, guard⟩ a (.ok (.map s.heap.length) { s with heap := s.heap ++ [.mp []] }) := by
  obtain ⟨h1, h2⟩ := hw.alloc (k := .mp []) (o := .map #[] 0) ⟨rfl, rfl, fun i e e' h => by simp at h⟩
  refine .value (c := .map (some w.heap.size)) ?_ h2 h1 (.map _ _ ?_)
  · unfold execOp Instr.makeMap
    simp
  · simp only [Gh.addLoc]
    rw [← hw.len, List.getElem?_append_right (Nat.le_refl _)]
    simp

theorem lenMap_ok {c : Call} {t : TypeId} {x : Operand} {xv : V} (hw : WR base g s w) (hx : VR g xv (a.eval x)) (hc : c.callee = .builtin .len) (hargs : c.args.toList = [x]) (h0 : c.argTypes[0]? = some t) :
    OpOk P base g w ⟨dst, .call c, type, pos, after, guard⟩ a (lenMapV P t xv s) := by
  unfold lenMapV
  have hargs' : c.args = #[x] := by apply Array.toList_inj.1; simpa using hargs
  have c0 : (c.args.map a.eval)[0]? = some (a.eval x) := by rw [hargs']; simp
  split
  · rename_i kt et hx hu
    generalize hxv : a.eval x = cx at hx c0
    cases hx
    refine .same hw (run_builtin_value hc ?_) (.int _ _)
    unfold builtin
    simp only [Builtin.len_, h0, c0, Sem.run_bind, run_underlying hu, Result.andThen_ok]
    rfl
  · rename_i kt et id hx hu
    split
    · rename_i es hb
      obtain ⟨b, ms, hcm, hloc, h2, h3, h4⟩ := map_blk hw hx hb
      rw [hcm] at c0
      have hg : (getObj b).run P w = .ok (.map ms es.length) w := getObj_run h2 (fun _ _ _ => by simp)
      refine .same hw (run_builtin_value (x := .int .i64 es.length) hc ?_) (.int _ _)
      unfold builtin
      simp only [Builtin.len_, h0, c0, Sem.run_bind, run_underlying hu, Result.andThen_ok, hg, ← h3]
      rfl
    · exact .err
  · exact .err

end
end Go.Ev
