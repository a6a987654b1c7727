/- The text seat: contracts of functions. -/
import Derived.Test.YtfojnphbocojfaaGreatDoorEvTx2q
import Derived.Test.YtfojnphbocojfaaGreatDoorEvIdx
set_option linter.all false
set_option linter.unusedVariables false
set_option linter.unusedSimpArgs false
namespace Go.Ev
open Go Go.RowKit Go.Proofs
variable [Glob]
attribute [local irreducible] evFn roundOut loopCode ctxOf Tryz.prog

theorem tx_base : BaseOk Tryz.prog txCfg := ⟨tx_names, tx_mixed, sched_of_all tx_sched⟩

namespace Spec
def goodI (n : Int) : Bool := decide (32 ≤ n) && decide (n ≤ 126)
def good (b : UInt8) : Bool := goodI b.toNat
def valid (l : List UInt8) : Bool := decide (l.length ≤ 1000) && l.all good
end Spec
open Spec
def goodV : V → Bool
  | .int _ n => goodI n
  | _ => false
def validV : V → Bool
  | .str l => valid l
  | _ => false

/-! every byte is good -/
def l83 : LoopC := ⟨83, 2, 19, [0, 1, 4, 7, 8], idxF (stFn 51 42) (isClo 60) isByteB (fun _ v => !goodV v), false⟩
def cEv : Cfg := symCfg txCfg (fun _ => true) [] [l83]

theorem l83_ok : l83.Ok Tryz.prog cEv := by
  refine idx_ok (by kernel_rfl) (by kernel_rfl) fun k o xs fv rv n i s hs hf => ?_
  obtain ⟨lv, rfl⟩ := stFn_spec hs
  obtain rfl := isClo_spec hf
  refine ⟨decide (0 ≤ i) && isIntAt .u8 xs i.toNat, !(bif decide (intAt xs i.toNat ≥ 32) then decide (intAt xs i.toNat ≤ 126) else false), by kernel_rfl, fun x hx h0 hd => ?_, fun x hx hd => ?_⟩
  · obtain ⟨m, rfl⟩ := isByteB_spec hd
    simp [h0, isIntAt_of hx]
  · obtain ⟨m, rfl⟩ := isByteB_spec hd
    rw [intAt_of hx]
    simp only [goodV, goodI]
    cases h1 : decide (32 ≤ m) <;> simp_all

theorem cEv_ok : CfgOk Tryz.prog cEv := symCfg_ok tx_base .nil (by intro c hc; rcases List.mem_singleton.1 hc with rfl; exact l83_ok)

def everyByte : List V → St → Out V
  | [.lst _ xs, .fn (.func 42) [] []], s => .br (decide (xs.length ≤ 1000000000) && xs.all isByteB) (.ok (.bool (xs.all goodV)) s) .err
  | _, _ => .err

theorem has41 : Has Tryz.prog 41 everyByte := by
  refine Has.shut cEv_ok 10 ⟨_, Tryz.func41, rfl⟩ fun args s K Kp h => ?_
  unfold everyByte at h
  split at h
  · rename_i o xs
    obtain ⟨hg, h⟩ := br_err h
    simp only [Bool.and_eq_true, decide_eq_true_eq] at hg
    obtain ⟨hlen, hall⟩ := hg
    simp only [List.map_cons, List.map_nil, strip_lst]
    refine ⟨by rw [closedL, closed_lst (closedL_bytes hall)]; rfl, ?_⟩
    refine Out.all_eq (y := .br (true && decide ((xs.length : Int) = xs.length) && decide (xs.length ≤ 1000000000) && xs.all isByteB)
      (.br ((xs.drop 0).any fun v => !goodV v) (.ok (.bool false) { heap := [.row 51 [.fn (.func 42) [] []]] }) (.ok (.bool true) { heap := [.row 51 [.fn (.func 42) [] []]] })) .err) (by kernel_rfl) ?_
    simp only [List.drop_zero, any_not]
    simp only [hall, hlen, decide_true, Bool.and_true]
    refine ⟨fun _ => ⟨fun hb => ⟨rfl, ?_⟩, fun hb => ⟨rfl, ?_⟩⟩, fun h => by simp at h⟩
    · have : xs.all goodV = false := by simpa using hb
      rw [this] at h; exact h
    · have : xs.all goodV = true := by simpa using hb
      rw [this] at h; exact h
  · exact h.elim

/-- A contract by a value alone. -/
def validC : List V → Option V
  | [.str l] => some (.bool (valid l))
  | _ => none

theorem bytes_isByte (l : List UInt8) : (l.map fun c : UInt8 => V.int .u8 c.toNat).all isByteB = true := by
  rw [List.all_map]; exact List.all_eq_true.2 fun _ _ => rfl
theorem bytes_good (l : List UInt8) : (l.map fun c : UInt8 => V.int .u8 c.toNat).all goodV = l.all good := by
  rw [List.all_map]; rfl

def c19 : Cfg := symCfg txCfg (fun _ => true) [(41, .full everyByte)] []
theorem c19_ok : CfgOk Tryz.prog c19 := symCfg_ok tx_base (.cons has41 .nil) (by simp)

theorem has19 : Has Tryz.prog 19 (Ext.val validC).out := by
  refine Has.val c19_ok 10 ⟨_, Tryz.func19, rfl⟩ fun args v h => ?_
  unfold validC at h
  split at h
  · rename_i l
    simp only [Option.some.injEq] at h
    subst h
    refine ⟨rfl, ?_⟩
    refine Out.all_eq (y := .br (decide ((l.length : Int) ≤ 1000))
      (.br (decide (l.length ≤ 1099511627776)) (.br (decide ((l.map fun c : UInt8 => V.int .u8 c.toNat).length ≤ 1000000000) && (l.map fun c : UInt8 => V.int .u8 c.toNat).all isByteB)
        (.ok (.bool ((l.map fun c : UInt8 => V.int .u8 c.toNat).all goodV)) { live := [(l.length, 1)] }) .err) .err)
      (.ok (.bool false) {})) (by kernel_rfl) ?_
    rw [bytes_isByte, bytes_good, List.length_map]
    unfold valid
    refine ⟨fun h => ?_, fun h => ?_⟩
    · simp only [decide_eq_true_eq] at h
      have h' : l.length ≤ 1000 := by omega
      have h1 : decide (l.length ≤ 1099511627776) = true := by simp; omega
      have h2 : decide (l.length ≤ 1000000000) = true := by simp; omega
      rw [h1, h2]
      refine ⟨fun _ => ⟨fun _ => ⟨?_, rfl⟩, fun h => by simp at h⟩, fun h => by simp at h⟩
      simp only [h', decide_true, Bool.true_and, strip, stripFlat, stripCell]
    · simp only [decide_eq_false_iff_not] at h
      have h' : ¬ l.length ≤ 1000 := by omega
      refine ⟨?_, rfl⟩
      simp only [h', decide_false, Bool.false_and, strip, stripFlat, stripCell]
  · simp at h

/-! lists of errors of arguments -/
def l94 : LoopC := ⟨94, 2, 19, [0, 1, 4, 7, 8], idxF (stFn 23 19) (isClo 72) isStrB (fun _ v => !validV v), false⟩
def stBox (s : St) : Bool := match s with
  | ⟨[.row 3 [.int .i64 _], .row 77 [.fn (.func 56) [] [.ptr 0 0]]], _⟩ => true
  | _ => false
def boxI (s : St) : Int := match s with
  | ⟨[.row 3 [.int .i64 n], _], _⟩ => n
  | _ => 0
theorem stBox_spec {s : St} (h : stBox s = true) : ∃ n lv, s = ⟨[.row 3 [.int .i64 n], .row 77 [.fn (.func 56) [] [.ptr 0 0]]], lv⟩ := by
  unfold stBox at h
  split at h
  · exact ⟨_, _, rfl⟩
  · simp at h
def intOr : V → Int
  | .int _ n => n
  | _ => 0
def isClo1 (f : Nat) : V → Bool
  | .fn (.func g) [] [.ptr 1 0] => Nat.beq g f
  | _ => false
theorem isClo1_spec {f : Nat} {v : V} (h : isClo1 f v = true) : v = .fn (.func f) [] [.ptr 1 0] := by
  unfold isClo1 at h
  split at h
  · rw [Nat.eq_of_beq_eq_true h]
  · simp at h
def l95 : LoopC := ⟨95, 2, 19, [0, 1, 4, 7, 8], idxF stBox (isClo1 74) (isIntB .i64) (fun s v => !decide (intOr v ≥ boxI s)), false⟩
def l52 : LoopC := ⟨52, 2, 19, [0, 1, 4, 7, 8], idxF stAny (isFun 53) (isIntB .i64) (fun _ v => !(intOr v == 0)), false⟩
def c20 : Cfg := symCfg txCfg (fun _ => true) [(41, .full everyByte), (19, .val validC)] [l94, l95, l52]

theorem l94_ok : l94.Ok Tryz.prog c20 := by
  refine idx_ok (by kernel_rfl) (by kernel_rfl) fun k o xs fv rv n i s hs hf => ?_
  obtain ⟨lv, rfl⟩ := stFn_spec hs
  obtain rfl := isClo_spec hf
  refine ⟨decide (0 ≤ i) && isStrAt xs i.toNat, !valid (strAt xs i.toNat), by kernel_rfl, fun x hx h0 hd => ?_, fun x hx hd => ?_⟩
  · obtain ⟨m, rfl⟩ := isStrB_spec hd
    simp [h0, isStrAt_of hx]
  · obtain ⟨m, rfl⟩ := isStrB_spec hd
    rw [strAt_of hx]; rfl

theorem l95_ok : l95.Ok Tryz.prog c20 := by
  refine idx_ok (by kernel_rfl) (by kernel_rfl) fun k o xs fv rv n i s hs hf => ?_
  obtain ⟨m, lv, rfl⟩ := stBox_spec hs
  obtain rfl := isClo1_spec hf
  refine ⟨decide (0 ≤ i) && isIntAt .i64 xs i.toNat, !decide (intAt xs i.toNat ≥ m), by kernel_rfl, fun x hx h0 hd => ?_, fun x hx hd => ?_⟩
  · obtain ⟨m, rfl⟩ := isIntB_spec hd
    simp [h0, isIntAt_of hx]
  · obtain ⟨m, rfl⟩ := isIntB_spec hd
    rw [intAt_of hx]; rfl

theorem l52_ok : l52.Ok Tryz.prog c20 := by
  refine idx_ok (by kernel_rfl) (by kernel_rfl) fun k o xs fv rv n i s hs hf => ?_
  obtain rfl := isFun_spec hf
  refine ⟨decide (0 ≤ i) && isIntAt .i64 xs i.toNat, !(intAt xs i.toNat == 0), by kernel_rfl, fun x hx h0 hd => ?_, fun x hx hd => ?_⟩
  · obtain ⟨m, rfl⟩ := isIntB_spec hd
    simp [h0, isIntAt_of hx]
  · obtain ⟨m, rfl⟩ := isIntB_spec hd
    rw [intAt_of hx]; rfl

theorem c20_ok : CfgOk Tryz.prog c20 := symCfg_ok tx_base (.cons has41 (.cons has19 .nil)) (by
  intro c hc
  simp only [List.mem_cons, List.not_mem_nil, or_false] at hc
  rcases hc with rfl | rfl | rfl
  · exact l94_ok
  · exact l95_ok
  · exact l52_ok)

def errIf (b : Bool) : V := .int .i64 (bif b then 0 else 1)

def vlistC : List V → Option V
  | [.lst _ xs] => if decide (xs.length ≤ 1000000000) && xs.all isStrB then some (errIf (xs.all validV)) else none
  | _ => none
def padsC : List V → Option V
  | [.lst _ xs] => if decide (xs.length ≤ 1000000000) && xs.all isByteB then some (errIf (xs.all goodV)) else none
  | _ => none
def leastC : List V → Option V
  | [.int .i64 n, .lst _ xs] => if decide (xs.length ≤ 1000000000) && xs.all (isIntB .i64) then some (errIf (xs.all fun v => decide (intOr v ≥ n))) else none
  | _ => none
def firstI : List V → Int
  | [] => 0
  | v :: r => bif intOr v == 0 then firstI r else intOr v
def firstC : List V → Option V
  | [.lst _ xs] => if decide (xs.length ≤ 1000000000) && xs.all (isIntB .i64) then some (.int .i64 (firstI xs)) else none
  | _ => none

theorem guard3 {xs : List V} {p : Bool} (h1 : xs.length ≤ 1000000000) (h2 : p = true) : (true && decide ((xs.length : Int) = xs.length) && decide (xs.length ≤ 1000000000) && p) = true := by simp [h1, h2]

theorem has27 : Has Tryz.prog 27 (Ext.val vlistC).out := by
  refine Has.val c20_ok 10 ⟨_, Tryz.func27, rfl⟩ fun args v h => ?_
  unfold vlistC at h
  split at h
  · rename_i o xs
    split at h
    · rename_i hc
      simp only [Bool.and_eq_true, decide_eq_true_eq] at hc
      simp only [Option.some.injEq] at h
      subst h
      simp only [List.map_cons, List.map_nil, strip_lst]
      refine ⟨by rw [closedL, closed_lst (closedL_strs hc.2)]; rfl, ?_⟩
      refine Out.all_eq (y := .br (true && decide ((xs.length : Int) = xs.length) && decide (xs.length ≤ 1000000000) && xs.all isStrB)
        (.br ((xs.drop 0).any fun v => !validV v) (.br false (.ok (.int .i64 0) { heap := [.row 23 [.fn (.func 19) [] []]] }) (.ok (.int .i64 1) { heap := [.row 23 [.fn (.func 19) [] []]] }))
          (.br true (.ok (.int .i64 0) { heap := [.row 23 [.fn (.func 19) [] []]] }) (.ok (.int .i64 1) { heap := [.row 23 [.fn (.func 19) [] []]] }))) .err) (by kernel_rfl) ?_
      rw [guard3 hc.1 hc.2, List.drop_zero, any_not]
      refine ⟨fun _ => ?_, fun h => by simp at h⟩
      cases xs.all validV
      · exact ⟨fun _ => ⟨fun h => by simp at h, fun _ => ⟨rfl, rfl⟩⟩, fun h => by simp at h⟩
      · exact ⟨fun h => by simp at h, fun _ => ⟨fun _ => ⟨rfl, rfl⟩, fun h => by simp at h⟩⟩
    · simp at h
  · simp at h

theorem has28 : Has Tryz.prog 28 (Ext.val padsC).out := by
  refine Has.val c20_ok 10 ⟨_, Tryz.func28, rfl⟩ fun args v h => ?_
  unfold padsC at h
  split at h
  · rename_i o xs
    split at h
    · rename_i hc
      have hc0 := hc
      simp only [Bool.and_eq_true, decide_eq_true_eq] at hc
      simp only [Option.some.injEq] at h
      subst h
      simp only [List.map_cons, List.map_nil, strip_lst]
      refine ⟨by rw [closedL, closed_lst (closedL_bytes hc.2)]; rfl, ?_⟩
      refine Out.all_eq (y := .br (decide (xs.length ≤ 1000000000) && xs.all isByteB) (.br (xs.all goodV) (.ok (.int .i64 0) {}) (.ok (.int .i64 1) {})) .err) (by kernel_rfl) ?_
      rw [hc0]
      refine ⟨fun _ => ?_, fun h => by simp at h⟩
      cases xs.all goodV
      · exact ⟨fun h => by simp at h, fun _ => ⟨rfl, rfl⟩⟩
      · exact ⟨fun _ => ⟨rfl, rfl⟩, fun h => by simp at h⟩
    · simp at h
  · simp at h

theorem has29 : Has Tryz.prog 29 (Ext.val leastC).out := by
  refine Has.val c20_ok 10 ⟨_, Tryz.func29, rfl⟩ fun args v h => ?_
  unfold leastC at h
  split at h
  · rename_i n o xs
    split at h
    · rename_i hc
      simp only [Bool.and_eq_true, decide_eq_true_eq] at hc
      simp only [Option.some.injEq] at h
      subst h
      simp only [List.map_cons, List.map_nil, strip_lst]
      refine ⟨by rw [closedL, closedL, closed_lst (closedL_ints hc.2)]; rfl, ?_⟩
      refine Out.all_eq (y := .br (true && decide ((xs.length : Int) = xs.length) && decide (xs.length ≤ 1000000000) && xs.all (isIntB .i64))
        (.br ((xs.drop 0).any fun v => !(decide (intOr v ≥ n))) (.br false (.ok (.int .i64 0) ⟨[.row 3 [.int .i64 n], .row 77 [.fn (.func 56) [] [.ptr 0 0]]], []⟩) (.ok (.int .i64 1) ⟨[.row 3 [.int .i64 n], .row 77 [.fn (.func 56) [] [.ptr 0 0]]], []⟩))
          (.br true (.ok (.int .i64 0) ⟨[.row 3 [.int .i64 n], .row 77 [.fn (.func 56) [] [.ptr 0 0]]], []⟩) (.ok (.int .i64 1) ⟨[.row 3 [.int .i64 n], .row 77 [.fn (.func 56) [] [.ptr 0 0]]], []⟩))) .err) (by kernel_rfl) ?_
      rw [guard3 hc.1 hc.2, List.drop_zero, any_not]
      refine ⟨fun _ => ?_, fun h => by simp at h⟩
      cases xs.all fun v => decide (intOr v ≥ n)
      · exact ⟨fun _ => ⟨fun h => by simp at h, fun _ => ⟨rfl, rfl⟩⟩, fun h => by simp at h⟩
      · exact ⟨fun h => by simp at h, fun _ => ⟨fun _ => ⟨rfl, rfl⟩, fun h => by simp at h⟩⟩
    · simp at h
  · simp at h

def badE (v : V) : Bool := !(intOr v == 0)
theorem firstI_any : ∀ {xs : List V}, xs.all (isIntB .i64) = true → (xs.any badE = false → firstI xs = 0) ∧
    (xs.any badE = true → xs[xs.findIdx badE]? = some (.int .i64 (firstI xs)))
  | [], _ => ⟨fun _ => rfl, fun h => by simp at h⟩
  | x :: xs, h => by
    simp only [List.all_cons, Bool.and_eq_true] at h
    obtain ⟨m, rfl⟩ := isIntB_spec h.1
    obtain ⟨h1, h2⟩ := firstI_any h.2
    by_cases hm : m = 0
    · subst hm
      have e1 : badE (.int .i64 0) = false := rfl
      have e2 : firstI (.int .i64 0 :: xs) = firstI xs := rfl
      rw [List.any_cons, List.findIdx_cons, e1, e2, Bool.false_or]
      refine ⟨h1, fun ha => ?_⟩
      simpa using h2 ha
    · have e0 : (m == 0) = false := by simpa using hm
      have e1 : badE (.int .i64 m) = true := by simp [badE, intOr, hm]
      have e2 : firstI (.int .i64 m :: xs) = m := by simp [firstI, intOr, e0]
      rw [List.any_cons, List.findIdx_cons, e1, e2]
      exact ⟨fun h => by simp at h, fun _ => rfl⟩

theorem has26 : Has Tryz.prog 26 (Ext.val firstC).out := by
  refine Has.val c20_ok 10 ⟨_, Tryz.func26, rfl⟩ fun args v h => ?_
  unfold firstC at h
  split at h
  · rename_i o xs
    split at h
    · rename_i hc
      simp only [Bool.and_eq_true, decide_eq_true_eq] at hc
      simp only [Option.some.injEq] at h
      subst h
      simp only [List.map_cons, List.map_nil, strip_lst]
      refine ⟨by rw [closedL, closed_lst (closedL_ints hc.2)]; rfl, ?_⟩
      refine Out.all_eq (y := .br (true && decide ((xs.length : Int) = xs.length) && decide (xs.length ≤ 1000000000) && xs.all (isIntB .i64))
        (.br ((xs.drop 0).any fun v => !(intOr v == 0)) (.br (decide ((0 : Int) + ((xs.drop 0).findIdx fun v => !(intOr v == 0)) < 0)) (.ok (.int .i64 0) {})
            (.br (decide (0 ≤ (0 : Int) + ((xs.drop 0).findIdx fun v => !(intOr v == 0))) && isIntAt .i64 xs ((0 : Int) + ((xs.drop 0).findIdx fun v => !(intOr v == 0))).toNat)
              (.ok (.int .i64 (intAt xs ((0 : Int) + ((xs.drop 0).findIdx fun v => !(intOr v == 0))).toNat)) {}) .err))
          (.br true (.ok (.int .i64 0) {}) (.br false (.ok (.int .i64 (intAt xs ((-1 : Int)).toNat)) {}) .err))) .err) (by kernel_rfl) ?_
      rw [guard3 hc.1 hc.2, List.drop_zero]
      refine ⟨fun _ => ?_, fun h => by simp at h⟩
      obtain ⟨f1, f2⟩ := firstI_any hc.2
      refine ⟨fun ha => ⟨fun h => ?_, fun _ => ?_⟩, fun ha => ⟨fun _ => ?_, fun h => by simp at h⟩⟩
      · simp only [decide_eq_true_eq] at h; omega
      · have hg := f2 ha
        have ht : ((0 : Int) + (xs.findIdx fun v => !(intOr v == 0))).toNat = xs.findIdx badE := by show ((0 : Int) + (xs.findIdx badE)).toNat = _; omega
        rw [ht, isIntAt_of hg, intAt_of hg]
        refine ⟨fun _ => ⟨rfl, rfl⟩, fun h => ?_⟩
        simp at h
      · rw [f1 ha]; exact ⟨rfl, rfl⟩
    · simp at h
  · simp at h
end Go.Ev
