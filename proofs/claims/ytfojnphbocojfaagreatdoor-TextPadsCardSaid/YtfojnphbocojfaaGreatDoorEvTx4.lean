/- The text seat: contracts of functions, the program's side. -/
import Derived.Test.YtfojnphbocojfaaGreatDoorEvTx3
set_option linter.all false
set_option linter.unusedVariables false
set_option linter.unusedSimpArgs false
namespace Go.Ev
open Go Go.RowKit Go.Proofs Spec
variable [Glob]
attribute [local irreducible] evFn roundOut loopCode ctxOf Tryz.prog

def repeatS : List V → St → Out V
  | [.str l, .int .i64 n], s => .br (decide (0 ≤ n ∧ n.toNat ≤ 9223372036854775807 ∧ l.length * n.toNat ≤ 140737488355328)) (.ok (.str (Lib.repeatL l n.toNat)) s) .err
  | _, _ => .err

theorem has57 : Has Tryz.prog 57 repeatS := by
  refine ⟨fun args s base g w cargs K Kp hw hargs h => repeat_ok args s base g w cargs K Kp hw hargs ?_, ⟨_, Tryz.func57, rfl⟩⟩
  unfold repeatS at h
  split at h
  · obtain ⟨hc, h⟩ := br_err h
    simp only [decide_eq_true_eq] at hc
    unfold repeatV
    simp only
    rw [if_pos hc]
    exact h
  · exact h.elim

namespace Spec
def madeStr (l : List UInt8) : List UInt8 := bif valid l then l else []
def madeErr (l : List UInt8) : Int := bif decide (l.length > 1000) then 3 else bif valid l then 0 else 8
/-- How often many repeats. -/
def manyN (l : List UInt8) (n : Int) : Int :=
  if IntKind.i64.wrap (IntKind.i64.wrap (Int.tdiv 1000 (l.length : Int)) + 1) < n then IntKind.i64.wrap (IntKind.i64.wrap (Int.tdiv 1000 (l.length : Int)) + 1) else n
def many (l : List UInt8) (n : Int) : List UInt8 := Lib.repeatL l (manyN l n).toNat
def fit (l : List UInt8) (n : Int) (p : UInt8) : List UInt8 := bif decide (n ≤ (l.length : Int)) then l.take n.toNat else l ++ many [p] (n - l.length)
end Spec

namespace Spec
def right (l : List UInt8) (n : Int) (p : UInt8) : List UInt8 := bif decide (n ≤ (l.length : Int)) then l.drop ((l.length : Int) - n).toNat else many [p] (n - l.length) ++ l
def center (l : List UInt8) (n : Int) (p : UInt8) : List UInt8 :=
  bif decide (n ≤ (l.length : Int)) then (l.drop (((l.length : Int) - n).tdiv 2).toNat).take n.toNat
  else many [p] ((n - l.length).tdiv 2) ++ l ++ many [p] ((n - l.length) - (n - l.length).tdiv 2)
end Spec
open Spec

def madeC : List V → Option V
  | [.str l] => some (.tup [.str (madeStr l), .int .i64 (madeErr l)])
  | _ => none
def manyH : List V → St → Out V
  | [.str l, .int .i64 n], s => .br (decide (0 ≤ n) && decide (n ≤ 9223372036854775807) && decide (l.length ≤ 100000)) (.ok (.str (many l n)) s) .err
  | _, _ => .err
def fitH : List V → St → Out V
  | [.str l, .int .i64 n, .int .u8 p], s => .br (decide (0 ≤ n) && decide (n ≤ 9223372036854775807) && decide (l.length ≤ 100000)) (.ok (.str (fit l n (byteOf (.int .u8 p)))) s) .err
  | _, _ => .err
/-- A result, or the error of the arguments. -/
def resT (ok : Bool) (r : List UInt8) : V := .tup [.str (bif ok then madeStr r else []), .int .i64 (bif ok then madeErr r else 1)]
def padH (f : List UInt8 → Int → UInt8 → List UInt8) : List V → St → Out V
  | [.str l, .int .i64 n, .int .u8 p], s => .br (decide (n ≤ 9223372036854775807) && decide (l.length ≤ 100000)) (.ok (resT (valid l && goodI p && decide (n ≥ 0)) (f l n (byteOf (.int .u8 p)))) s) .err
  | _, _ => .err
def copiesH : List V → St → Out V
  | [.str l, .int .i64 n], s => .br (decide (n ≤ 9223372036854775807) && decide (l.length ≤ 100000)) (.ok (resT (valid l && decide (n ≥ 0)) (many l n)) s) .err
  | _, _ => .err

def c40 : Cfg := symCfg txCfg (fun _ => true) [(19, .val validC), (57, .full repeatS)] []
def c41 : Cfg := symCfg txCfg (fun _ => true) [(32, .full manyH)] []
def c42 : Cfg := symCfg txCfg (fun _ => true) [(26, .val firstC), (27, .val vlistC), (28, .val padsC), (29, .val leastC), (30, .val madeC), (31, .full fitH), (32, .full manyH)] []

theorem c40_ok : CfgOk Tryz.prog c40 := symCfg_ok tx_base (.cons has19 (.cons has57 .nil)) (by simp)

theorem has30 : Has Tryz.prog 30 (Ext.val madeC).out := by
  refine Has.val c40_ok 10 ⟨_, Tryz.func30, rfl⟩ fun args v h => ?_
  unfold madeC at h
  split at h
  · rename_i l
    simp only [Option.some.injEq] at h
    subst h
    refine ⟨rfl, ?_⟩
    refine Out.all_eq (y := .br (decide ((l.length : Int) > 1000)) (.ok (.tup [.str [], .int .i64 3]) {})
      (.br (!valid l) (.ok (.tup [.str [], .int .i64 8]) {}) (.ok (.tup [.str l, .int .i64 0]) {}))) (by kernel_rfl) ?_
    have e : decide ((l.length : Int) > 1000) = decide (l.length > 1000) := by simp only [gt_iff_lt, decide_eq_decide]; omega
    rw [e]
    unfold madeStr madeErr
    refine ⟨fun h => ?_, fun h => ⟨fun h2 => ?_, fun h2 => ?_⟩⟩
    · have hv : valid l = false := by
        simp only [decide_eq_true_eq] at h
        simp [valid]; omega
      refine ⟨?_, rfl⟩
      simp only [h, hv, cond_true, cond_false]; rfl
    · have hv : valid l = false := by simpa using h2
      refine ⟨?_, rfl⟩
      simp only [h, hv, cond_true, cond_false]; rfl
    · have hv : valid l = true := by simpa using h2
      refine ⟨?_, rfl⟩
      simp only [h, hv, cond_true, cond_false]; rfl
  · simp at h

theorem manyN_bounds {l : List UInt8} {n : Int} (hl : l.length ≤ 100000) (h0 : 0 < l.length) (hn : 0 ≤ n) :
    manyN l n = min n (1000 / (l.length : Int) + 1) := by
  have h1 : Int.tdiv 1000 (l.length : Int) = 1000 / (l.length : Int) := Int.tdiv_eq_ediv_of_nonneg (by omega)
  have h2 : 0 ≤ (1000 : Int) / (l.length : Int) := Int.ediv_nonneg (by omega) (by omega)
  have h3 : (1000 : Int) / (l.length : Int) ≤ 1000 := Int.ediv_le_self _ (by omega)
  unfold manyN
  rw [h1, wrap64_id (n := 1000 / (l.length : Int)) (by omega) (by omega), wrap64_id (by omega) (by omega)]
  split <;> omega

theorem manyN_le {l : List UInt8} {n : Int} (hl : l.length ≤ 100000) (h0 : 0 < l.length) (hn : 0 ≤ n) : 0 ≤ manyN l n ∧ manyN l n ≤ 1001 := by
  have h2 : 0 ≤ (1000 : Int) / (l.length : Int) := Int.ediv_nonneg (by omega) (by omega)
  have h3 : (1000 : Int) / (l.length : Int) ≤ 1000 := Int.ediv_le_self _ (by omega)
  rw [manyN_bounds hl h0 hn]
  omega

theorem has32 : Has Tryz.prog 32 manyH := by
  refine Has.shut c40_ok 10 ⟨_, Tryz.func32, rfl⟩ fun args s K Kp h => ?_
  unfold manyH at h
  split at h
  · rename_i l n
    obtain ⟨hc, h⟩ := br_err h
    simp only [Bool.and_eq_true, decide_eq_true_eq] at hc
    obtain ⟨⟨h0, h1⟩, h2⟩ := hc
    refine ⟨rfl, ?_⟩
    refine Out.all_eq (y := .br ((l.length : Int) == 0) (.ok (.str []) {}) (.br (decide ((l.length : Int) ≠ 0))
      (.br (decide (0 ≤ manyN l n ∧ (manyN l n).toNat ≤ 9223372036854775807 ∧ l.length * (manyN l n).toNat ≤ 140737488355328)) (.ok (.str (Lib.repeatL l (manyN l n).toNat)) {}) .err) .err)) (by kernel_rfl) ?_
    refine ⟨fun he => ?_, fun he => ?_⟩
    · have : l = [] := by simpa using he
      subst this
      have hr : ∀ k, Lib.repeatL [] k = [] := by intro k; induction k with | zero => rfl | succ k ih => simp [Lib.repeatL, ih]
      simp only [Spec.many, hr] at h
      exact ⟨rfl, h⟩
    · have hl0 : l.length ≠ 0 := by simpa using he
      have hb := manyN_le h2 (by omega) h0
      refine br_need (by simp; intro e; subst e; simp at hl0) (br_need ?_ ⟨rfl, h⟩)
      simp only [decide_eq_true_eq]
      refine ⟨hb.1, by omega, ?_⟩
      calc l.length * (manyN l n).toNat ≤ 100000 * 1001 := Nat.mul_le_mul h2 (by omega)
        _ ≤ 140737488355328 := by decide
  · exact h.elim

theorem many_length {l : List UInt8} {n : Int} (hl : l.length ≤ 100000) (hn : 0 ≤ n) : (Spec.many l n).length ≤ 200000000 := by
  unfold Spec.many
  rw [Lib.repeatL_length]
  rcases Nat.eq_zero_or_pos l.length with h | h
  · rw [h]; simp
  · have := manyN_le hl h hn
    calc (manyN l n).toNat * l.length ≤ 1001 * 100000 := Nat.mul_le_mul (by omega) hl
      _ ≤ _ := by decide

theorem c41_ok : CfgOk Tryz.prog c41 := symCfg_ok tx_base (.cons has32 .nil) (by simp)

theorem has31 : Has Tryz.prog 31 fitH := by
  refine Has.shut c41_ok 10 ⟨_, Tryz.func31, rfl⟩ fun args s K Kp h => ?_
  unfold fitH at h
  split at h
  · rename_i l n p
    obtain ⟨hc, h⟩ := br_err h
    simp only [Bool.and_eq_true, decide_eq_true_eq] at hc
    obtain ⟨⟨h0, h1⟩, h2⟩ := hc
    refine ⟨rfl, ?_⟩
    refine Out.all_eq (y := .br (decide (n ≤ (l.length : Int))) (.br (decide ((0 : Int) ≤ 0 ∧ 0 ≤ n ∧ n ≤ (l.length : Int))) (.ok (.str ((l.drop (0 : Int).toNat).take (n.toNat - (0 : Int).toNat))) {}) .err)
      (.br true (.br (decide (0 ≤ IntKind.i64.wrap (n - l.length)) && decide (IntKind.i64.wrap (n - l.length) ≤ 9223372036854775807) && true)
        (.br (decide (l.length + (Spec.many [byteOf (.int .u8 p)] (IntKind.i64.wrap (n - l.length))).length ≤ 9223372036854775807)) (.ok (.str (l ++ Spec.many [byteOf (.int .u8 p)] (IntKind.i64.wrap (n - l.length)))) {}) .err) .err) .err)) (by kernel_rfl) ?_
    unfold Spec.fit at h
    refine ⟨fun he => ?_, fun he => br_need rfl ?_⟩
    · rw [he] at h
      simp only [decide_eq_true_eq] at he
      refine br_need (by simp; omega) ⟨rfl, ?_⟩
      exact h
    · rw [he] at h
      simp only [decide_eq_false_iff_not] at he
      rw [wrap64_id (by omega) (by omega)]
      have hm := many_length (l := [byteOf (.int .u8 p)]) (n := n - l.length) (by simp) (by omega)
      refine br_need (by simp; omega) (br_need (by simp only [decide_eq_true_eq]; omega) ⟨rfl, h⟩)
  · exact h.elim

theorem c42_ok : CfgOk Tryz.prog c42 := symCfg_ok tx_base (.cons has26 (.cons has27 (.cons has28 (.cons has29 (.cons has30 (.cons has31 (.cons has32 .nil))))))) (by simp)

def err3 (l : List UInt8) (p n : Int) : Int := firstI [errIf ([V.str l].all validV), errIf ([V.int .u8 p].all goodV), errIf ([V.int .i64 n].all fun v => decide (intOr v ≥ 0))]
def err2 (l : List UInt8) (n : Int) : Int := firstI [errIf ([V.str l].all validV), errIf ([V.int .i64 n].all fun v => decide (intOr v ≥ 0))]
theorem first3 (a b c : Bool) : firstI [errIf a, errIf b, errIf c] = bif a && b && c then 0 else 1 := by cases a <;> cases b <;> cases c <;> rfl
theorem first2 (a b : Bool) : firstI [errIf a, errIf b] = bif a && b then 0 else 1 := by cases a <;> cases b <;> rfl
theorem all1 (x : V) (p : V → Bool) : [x].all p = p x := by simp
theorem err3_eq (l : List UInt8) (p n : Int) : err3 l p n = bif valid l && goodI p && decide (n ≥ 0) then 0 else 1 := by
  unfold err3
  rw [first3, all1, all1, all1]; rfl
theorem err2_eq (l : List UInt8) (n : Int) : err2 l n = bif valid l && decide (n ≥ 0) then 0 else 1 := by
  unfold err2
  rw [first2, all1, all1]; rfl

/-- The head that the functions share: an error of the arguments ends them. -/
theorem head_all {ok : Bool} {e : Int} {r : List UInt8} {s : St} {K Kp : V → St → Prop} {rest : Out V} (he : e = bif ok then 0 else 1) (h : K (resT ok r) s)
    (hrest : ok = true → K (resT true r) s → rest.all (fun v _ => closed (strip v) = true ∧ K (strip v) s) (fun v _ => closed v = true ∧ Kp v s)) :
    (Out.br (e != 0) (.ok (.tup [.str [], .int .i64 e]) {}) rest).all (fun v _ => closed (strip v) = true ∧ K (strip v) s) (fun v _ => closed v = true ∧ Kp v s) := by
  subst he
  cases ok with
  | true => exact br_no rfl (hrest rfl h)
  | false => exact br_yes rfl ⟨rfl, h⟩

theorem has6 : Has Tryz.prog 6 (padH fit) := by
  refine Has.shut c42_ok 10 ⟨_, Tryz.func6, rfl⟩ fun args s K Kp h => ?_
  unfold padH at h
  split at h
  · rename_i l n p
    obtain ⟨hc, h⟩ := br_err h
    simp only [Bool.and_eq_true, decide_eq_true_eq] at hc
    refine ⟨rfl, ?_⟩
    refine Out.all_eq (y := .br (err3 l p n != 0) (.ok (.tup [.str [], .int .i64 (err3 l p n)]) {})
      (.br (decide (0 ≤ n) && decide (n ≤ 9223372036854775807) && decide (l.length ≤ 100000)) (.ok (.tup [.str (madeStr (fit l n (byteOf (.int .u8 p)))), .int .i64 (madeErr (fit l n (byteOf (.int .u8 p))))]) {}) .err)) (by kernel_rfl) ?_
    refine head_all (err3_eq l p n) h fun hok hK => ?_
    simp only [Bool.and_eq_true, decide_eq_true_eq] at hok
    exact br_need (by simp [hc.1, hc.2]; omega) ⟨rfl, hK⟩
  · exact h.elim

theorem has7 : Has Tryz.prog 7 (padH right) := by
  refine Has.shut c42_ok 10 ⟨_, Tryz.func7, rfl⟩ fun args s K Kp h => ?_
  unfold padH at h
  split at h
  · rename_i l n p
    obtain ⟨hc, h⟩ := br_err h
    simp only [Bool.and_eq_true, decide_eq_true_eq] at hc
    refine ⟨rfl, ?_⟩
    refine Out.all_eq (y := .br (err3 l p n != 0) (.ok (.tup [.str [], .int .i64 (err3 l p n)]) {})
      (.br (decide (n ≤ (l.length : Int)))
        (.br (decide (0 ≤ IntKind.i64.wrap ((l.length : Int) - n) ∧ IntKind.i64.wrap ((l.length : Int) - n) ≤ (l.length : Int) ∧ (l.length : Int) ≤ (l.length : Int)))
          (.ok (.tup [.str (madeStr ((l.drop (IntKind.i64.wrap ((l.length : Int) - n)).toNat).take ((l.length : Int).toNat - (IntKind.i64.wrap ((l.length : Int) - n)).toNat))),
            .int .i64 (madeErr ((l.drop (IntKind.i64.wrap ((l.length : Int) - n)).toNat).take ((l.length : Int).toNat - (IntKind.i64.wrap ((l.length : Int) - n)).toNat)))]) {}) .err)
        (.br true (.br (decide (0 ≤ IntKind.i64.wrap (n - l.length)) && decide (IntKind.i64.wrap (n - l.length) ≤ 9223372036854775807) && true)
          (.br (decide ((Spec.many [byteOf (.int .u8 p)] (IntKind.i64.wrap (n - l.length))).length + l.length ≤ 9223372036854775807))
            (.ok (.tup [.str (madeStr (Spec.many [byteOf (.int .u8 p)] (IntKind.i64.wrap (n - l.length)) ++ l)), .int .i64 (madeErr (Spec.many [byteOf (.int .u8 p)] (IntKind.i64.wrap (n - l.length)) ++ l))]) {}) .err) .err) .err))) (by kernel_rfl) ?_
    refine head_all (err3_eq l p n) h fun hok hK => ?_
    simp only [Bool.and_eq_true, decide_eq_true_eq] at hok
    have hn := hok.2
    have hl := hc.2
    have hn2 := hc.1
    unfold right at hK
    refine ⟨fun he => ?_, fun he => br_need rfl ?_⟩
    · rw [he] at hK
      simp only [decide_eq_true_eq] at he
      rw [wrap64_id (by omega) (by omega)]
      have ht : (l.drop ((l.length : Int) - n).toNat).take ((l.length : Int).toNat - ((l.length : Int) - n).toNat) = l.drop ((l.length : Int) - n).toNat := List.take_of_length_le (by simp)
      rw [ht]
      exact br_need (by simp; omega) ⟨rfl, hK⟩
    · rw [he] at hK
      simp only [decide_eq_false_iff_not] at he
      rw [wrap64_id (by omega) (by omega)]
      have hm := many_length (l := [byteOf (.int .u8 p)]) (n := n - l.length) (by simp) (by omega)
      exact br_need (by simp; omega) (br_need (by simp only [decide_eq_true_eq]; omega) ⟨rfl, hK⟩)
  · exact h.elim

theorem has9 : Has Tryz.prog 9 copiesH := by
  refine Has.shut c42_ok 10 ⟨_, Tryz.func9, rfl⟩ fun args s K Kp h => ?_
  unfold copiesH at h
  split at h
  · rename_i l n
    obtain ⟨hc, h⟩ := br_err h
    simp only [Bool.and_eq_true, decide_eq_true_eq] at hc
    refine ⟨rfl, ?_⟩
    refine Out.all_eq (y := .br (err2 l n != 0) (.ok (.tup [.str [], .int .i64 (err2 l n)]) {})
      (.br (decide (0 ≤ n) && decide (n ≤ 9223372036854775807) && decide (l.length ≤ 100000)) (.ok (.tup [.str (madeStr (Spec.many l n)), .int .i64 (madeErr (Spec.many l n))]) {}) .err)) (by kernel_rfl) ?_
    refine head_all (err2_eq l n) h fun hok hK => ?_
    simp only [Bool.and_eq_true, decide_eq_true_eq] at hok
    exact br_need (by simp [hc.1, hc.2]; omega) ⟨rfl, hK⟩
  · exact h.elim

def dA (l : List UInt8) (n : Int) : Int := IntKind.i64.wrap ((l.length : Int) - n)
def dB (l : List UInt8) (n : Int) : Int := IntKind.i64.wrap (n - (l.length : Int))
def hA (l : List UInt8) (n : Int) : Int := IntKind.i64.wrap ((dA l n).tdiv 2)
def hB (l : List UInt8) (n : Int) : Int := IntKind.i64.wrap ((dB l n).tdiv 2)
def gB (l : List UInt8) (n : Int) : Int := IntKind.i64.wrap (dB l n - hB l n)
def oneC (l : List UInt8) (n : Int) : List UInt8 := (l.drop (hA l n).toNat).take ((IntKind.i64.wrap (hA l n + n)).toNat - (hA l n).toNat)

theorem has8 : Has Tryz.prog 8 (padH center) := by
  refine Has.shut c42_ok 10 ⟨_, Tryz.func8, rfl⟩ fun args s K Kp h => ?_
  unfold padH at h
  split at h
  · rename_i l n p
    obtain ⟨hc, h⟩ := br_err h
    simp only [Bool.and_eq_true, decide_eq_true_eq] at hc
    refine ⟨rfl, ?_⟩
    refine Out.all_eq (y := .br (err3 l p n != 0) (.ok (.tup [.str [], .int .i64 (err3 l p n)]) {})
      (.br (decide (dA l n ≥ 0))
        (.br true (.br true (.br (decide (0 ≤ hA l n ∧ hA l n ≤ IntKind.i64.wrap (hA l n + n) ∧ IntKind.i64.wrap (hA l n + n) ≤ (l.length : Int)))
          (.ok (.tup [.str (madeStr (oneC l n)), .int .i64 (madeErr (oneC l n))]) {}) .err) .err) .err)
        (.br true (.br true (.br (decide (0 ≤ hB l n) && decide (hB l n ≤ 9223372036854775807) && true)
          (.br (decide ((Spec.many [byteOf (.int .u8 p)] (hB l n)).length + l.length ≤ 9223372036854775807))
            (.br true (.br (decide (0 ≤ gB l n) && decide (gB l n ≤ 9223372036854775807) && true)
              (.br (decide ((Spec.many [byteOf (.int .u8 p)] (hB l n) ++ l).length + (Spec.many [byteOf (.int .u8 p)] (gB l n)).length ≤ 9223372036854775807))
                (.ok (.tup [.str (madeStr (Spec.many [byteOf (.int .u8 p)] (hB l n) ++ l ++ Spec.many [byteOf (.int .u8 p)] (gB l n))),
                  .int .i64 (madeErr (Spec.many [byteOf (.int .u8 p)] (hB l n) ++ l ++ Spec.many [byteOf (.int .u8 p)] (gB l n)))]) {}) .err) .err) .err) .err) .err) .err) .err))) (by kernel_rfl) ?_
    refine head_all (err3_eq l p n) h fun hok hK => ?_
    simp only [Bool.and_eq_true, decide_eq_true_eq] at hok
    have hn := hok.2
    have hl := hc.2
    have hn2 := hc.1
    have eA : dA l n = (l.length : Int) - n := wrap64_id (by omega) (by omega)
    have eB : dB l n = n - (l.length : Int) := wrap64_id (by omega) (by omega)
    unfold center at hK
    refine ⟨fun he => br_need rfl (br_need rfl ?_), fun he => br_need rfl (br_need rfl ?_)⟩
    · simp only [decide_eq_true_eq] at he
      have hle : decide (n ≤ (l.length : Int)) = true := by simp only [decide_eq_true_eq]; omega
      rw [hle] at hK
      have hq : ((l.length : Int) - n).tdiv 2 = ((l.length : Int) - n) / 2 := Int.tdiv_eq_ediv_of_nonneg (by omega)
      have e1 : hA l n = ((l.length : Int) - n).tdiv 2 := by unfold hA; rw [eA]; exact wrap64_id (by omega) (by omega)
      have e2 : IntKind.i64.wrap (hA l n + n) = hA l n + n := wrap64_id (by omega) (by omega)
      have e3 : oneC l n = (l.drop (((l.length : Int) - n).tdiv 2).toNat).take n.toNat := by
        unfold oneC
        rw [e2, e1]
        congr 1
        omega
      rw [e3]
      refine br_need ?_ ⟨rfl, hK⟩
      rw [e2, e1]
      simp only [decide_eq_true_eq]
      omega
    · simp only [decide_eq_false_iff_not] at he
      have hle : decide (n ≤ (l.length : Int)) = false := by simp only [decide_eq_false_iff_not]; omega
      rw [hle] at hK
      have hq : (n - (l.length : Int)).tdiv 2 = (n - (l.length : Int)) / 2 := Int.tdiv_eq_ediv_of_nonneg (by omega)
      have e1 : hB l n = (n - (l.length : Int)).tdiv 2 := by unfold hB; rw [eB]; exact wrap64_id (by omega) (by omega)
      have e2 : gB l n = (n - (l.length : Int)) - (n - (l.length : Int)).tdiv 2 := by unfold gB; rw [eB, e1]; exact wrap64_id (by omega) (by omega)
      rw [e1, e2]
      have hm1 := many_length (l := [byteOf (.int .u8 p)]) (n := (n - (l.length : Int)).tdiv 2) (by simp) (by omega)
      have hm2 := many_length (l := [byteOf (.int .u8 p)]) (n := (n - (l.length : Int)) - (n - (l.length : Int)).tdiv 2) (by simp) (by omega)
      refine br_need (by simp; omega) (br_need (by simp only [decide_eq_true_eq]; omega) (br_need rfl (br_need (by simp; omega) (br_need (by simp only [decide_eq_true_eq, List.length_append]; omega) ⟨rfl, hK⟩))))
  · exact h.elim
end Go.Ev
