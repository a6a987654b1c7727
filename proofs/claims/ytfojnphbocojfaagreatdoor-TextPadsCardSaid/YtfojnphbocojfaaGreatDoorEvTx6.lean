/- The text seat: Strip; the helpers of the law; the reference's side. -/
import Derived.Test.YtfojnphbocojfaaGreatDoorEvTx5
set_option linter.all false
set_option linter.unusedVariables false
set_option linter.unusedSimpArgs false
namespace Go.Ev
open Go Go.RowKit Go.Proofs Spec
variable [Glob]
attribute [local irreducible] evFn roundOut roundCut loopCode ctxOf Tryz.prog

namespace Spec
def stripOk (l : List UInt8) (side p : Int) : Bool := valid l && goodI p && (side == 0 || side == 1 || side == 2)
def strip (l : List UInt8) (side : Int) (p : UInt8) : List UInt8 :=
  bif side == 0 then stripR [p] (stripL [p] l) else bif side == 1 then stripL [p] l else bif side == 2 then stripR [p] l else []
end Spec
def stripC : List V → Option V
  | [.str l, .int .i64 side, .int .u8 p] => some (.tup [.str (bif stripOk l side p then Spec.strip l side (byteOf (.int .u8 p)) else []), .int .i64 (bif stripOk l side p then 0 else 1)])
  | _ => none
def strC : List V → Option V
  | [.str a, .int .i64 e, .agg [.str b, .int .i64 f]] => some (.bool ((a == b) && (e == f)))
  | _ => none
def longC : List V → Option V
  | [.str l] => some (.bool (decide ((l.length : Int) > 1200)))
  | _ => none

def c11 : Cfg := symCfg txCfg (fun _ => true) [(26, .val firstC), (27, .val vlistC), (28, .val padsC), (35, .full cutLH), (34, .full cutRH)] []
theorem c11_ok : CfgOk Tryz.prog c11 := symCfg_ok tx_base (.cons has26 (.cons has27 (.cons has28 (.cons has35 (.cons has34 .nil))))) (by simp)
def c12 : Cfg := symCfg txCfg (fun _ => true) [] []
theorem c12_ok : CfgOk Tryz.prog c12 := symCfg_ok tx_base .nil (by simp)

/-- The loop of the reference's Valid. -/
def bad (b : UInt8) : Bool := !good b
def F20 : Nat → List V → St → Out (Ex × List V)
  | _d + 6, [.str l, _r, .int .i64 i], s =>
    .br (decide (0 ≤ i) && decide (l.length ≤ 1000000)) (.br ((l.drop i.toNat).any bad) (.ok (.ret, [.any, .bool false, .any]) s) (.ok (.exit 0, [.any, .any, .any]) s)) .err
  | _, _, _ => .err
def l20 : LoopC := ⟨20, 4, 18, [0, 2, 3], F20, false⟩
/-- The loop of the reference's out. -/
def F38 : Nat → List V → St → Out (Ex × List V)
  | _ + 6, [.lst o xs, .ptr 0 0, .int .i64 i], ⟨[.row 31 [.str [], .int .i64 0]], lv⟩ =>
    .br (decide (0 ≤ i) && decide (xs.length ≤ 1000000) && xs.all isByteB) (.br ((xs.drop i.toNat).any fun v => !goodV v) (.ok (.ret, [.any, .ptr 0 0, .any]) ⟨[.row 31 [.str [], .int .i64 8]], lv⟩) (.ok (.exit 0, [.lst o xs, .ptr 0 0, .any]) ⟨[.row 31 [.str [], .int .i64 0]], lv⟩)) .err
  | _, _, _ => .err
def l38 : LoopC := ⟨38, 4, 24, [0, 2, 3], F38, false⟩
def c38 : Cfg := symCfg txCfg (fun _ => true) [] [l20, l38]

theorem ascii_of_valid {l : List UInt8} (h : valid l = true) : ascii l = true ∧ l.length ≤ 1000 := by
  unfold valid at h
  simp only [Bool.and_eq_true, decide_eq_true_eq] at h
  refine ⟨List.all_eq_true.2 fun x hx => ?_, h.1⟩
  have := List.all_eq_true.1 h.2 x hx
  simp only [good, goodI, Bool.and_eq_true, decide_eq_true_eq] at this
  simp only [decide_eq_true_eq]; omega

theorem ascii_sub {l l' : List UInt8} (h : ascii l = true) (hs : ∀ x ∈ l', x ∈ l) : ascii l' = true :=
  List.all_eq_true.2 fun x hx => List.all_eq_true.1 h x (hs x hx)

theorem byteOf_good {p : Int} (h : goodI p = true) : ((byteOf (.int .u8 p)).toNat : Int) = p := by
  simp only [goodI, Bool.and_eq_true, decide_eq_true_eq] at h
  simp only [byteOf, UInt8.toNat_ofNat']
  omega

theorem ascii_one {p : Int} (h : goodI p = true) : ascii [byteOf (.int .u8 p)] = true := by
  have := byteOf_good h
  simp only [goodI, Bool.and_eq_true, decide_eq_true_eq] at h
  simp only [ascii, List.all_cons, List.all_nil, Bool.and_true, decide_eq_true_eq]
  omega

theorem stripL_sub {t l : List UInt8} : (∀ x ∈ stripL t l, x ∈ l) ∧ (stripL t l).length ≤ l.length :=
  ⟨fun _ hx => (List.dropWhile_sublist _).subset hx, (List.dropWhile_sublist _).length_le⟩

theorem has11 : Has Tryz.prog 11 (Ext.val stripC).out := by
  refine Has.val c11_ok 10 ⟨_, Tryz.func11, rfl⟩ fun args v h => ?_
  unfold stripC at h
  split at h
  · rename_i l side p
    simp only [Option.some.injEq] at h
    subst h
    refine ⟨rfl, ?_⟩
    refine Out.all_eq (y := .br (firstI [errIf ([V.str l].all validV), errIf ([V.int .u8 p].all goodV)] != 0) (.ok (.tup [.str [], .int .i64 (firstI [errIf ([V.str l].all validV), errIf ([V.int .u8 p].all goodV)])]) {})
      (.br true (.br (side == 0)
        (.br (ascii l && ascii [byteOf (.int .u8 p)] && decide (l.length ≤ 1000000))
          (.br (ascii (stripL [byteOf (.int .u8 p)] l) && ascii [byteOf (.int .u8 p)] && decide ((stripL [byteOf (.int .u8 p)] l).length ≤ 1000000))
            (.ok (.tup [.str (stripR [byteOf (.int .u8 p)] (stripL [byteOf (.int .u8 p)] l)), .int .i64 0]) {}) .err) .err)
        (.br (side == 1) (.br (ascii l && ascii [byteOf (.int .u8 p)] && decide (l.length ≤ 1000000)) (.ok (.tup [.str (stripL [byteOf (.int .u8 p)] l), .int .i64 0]) {}) .err)
          (.br (side == 2) (.br (ascii l && ascii [byteOf (.int .u8 p)] && decide (l.length ≤ 1000000)) (.ok (.tup [.str (stripR [byteOf (.int .u8 p)] l), .int .i64 0]) {}) .err)
            (.ok (.tup [.str [], .int .i64 1]) {})))) .err)) (by kernel_rfl) ?_
    rw [first2, all1, all1]
    have e1 : validV (.str l) = valid l := rfl
    have e2 : goodV (.int .u8 p) = goodI p := rfl
    rw [e1, e2]
    unfold stripOk Spec.strip
    cases hok : valid l && goodI p with
    | false => exact br_yes rfl ⟨rfl, rfl⟩
    | true =>
      simp only [Bool.and_eq_true] at hok
      obtain ⟨ha, hlen⟩ := ascii_of_valid hok.1
      have hp := ascii_one hok.2
      have hs := stripL_sub (t := [byteOf (.int .u8 p)]) (l := l)
      have g1 : (ascii l && ascii [byteOf (.int .u8 p)] && decide (l.length ≤ 1000000)) = true := by
        rw [ha, hp]; simp; omega
      have g2 : (ascii (stripL [byteOf (.int .u8 p)] l) && ascii [byteOf (.int .u8 p)] && decide ((stripL [byteOf (.int .u8 p)] l).length ≤ 1000000)) = true := by
        rw [ascii_sub ha hs.1, hp]; simp; omega
      refine br_no rfl (br_need rfl ?_)
      cases h0 : side == 0 with
      | true => exact br_yes rfl (br_need g1 (br_need g2 ⟨rfl, rfl⟩))
      | false =>
        refine br_no rfl ?_
        cases h1 : side == 1 with
        | true => exact br_yes rfl (br_need g1 ⟨rfl, rfl⟩)
        | false =>
          refine br_no rfl ?_
          cases h2 : side == 2 with
          | true => exact br_yes rfl (br_need g1 ⟨rfl, rfl⟩)
          | false => exact br_no rfl ⟨rfl, rfl⟩
  · simp at h

theorem has12 : Has Tryz.prog 12 (Ext.val strC).out := by
  refine Has.val c12_ok 10 ⟨_, Tryz.func12, rfl⟩ fun args v h => ?_
  unfold strC at h
  split at h
  · rename_i a e b f
    simp only [Option.some.injEq] at h
    subst h
    refine ⟨rfl, ?_⟩
    refine Out.all_eq (y := .br (a == b) (.ok (.bool (e == f)) ⟨[.row 31 [.str b, .int .i64 f]], []⟩) (.ok (.bool false) ⟨[.row 31 [.str b, .int .i64 f]], []⟩)) (by kernel_rfl) ?_
    exact ⟨fun h => ⟨by rw [h]; rfl, rfl⟩, fun h => ⟨by rw [h]; rfl, rfl⟩⟩
  · simp at h

theorem has5 : Has Tryz.prog 5 (Ext.val longC).out := by
  refine Has.val c12_ok 10 ⟨_, Tryz.func5, rfl⟩ fun args v h => ?_
  unfold longC at h
  split at h
  · rename_i l
    simp only [Option.some.injEq] at h
    subst h
    refine ⟨rfl, ?_⟩
    exact Out.all_eq (y := .ok (.bool (decide ((l.length : Int) > 1200))) {}) (by kernel_rfl) ⟨rfl, rfl⟩
  · simp at h

/-! the reference -/
def goodC (n : Int) : Bool := bif decide (n ≥ 32) then decide (n ≤ 126) else false
theorem goodC_eq (n : Int) : goodC n = goodI n := by
  unfold goodC goodI
  cases h : decide (n ≥ 32) <;> simp_all

theorem l20_ok : l20.Ok Tryz.prog c38 := by
  refine ⟨by kernel_rfl, by kernel_rfl, fun xs _ => match xs with | [.str l, _, .int _ i] => ((l.length : Int) - i).toNat | _ => 0, fun k xs s K Kp hl hF => ?_⟩
  simp only [l20, Bool.false_eq_true, if_false] at hF hl ⊢
  unfold F20 at hF
  split at hF
  · rename_i k l r i
    obtain ⟨hg, hX⟩ := br_err hF
    clear hF
    simp only [Bool.and_eq_true, decide_eq_true_eq] at hg
    obtain ⟨h0, hlen⟩ := hg
    refine Out.all_eq (y := .br (decide (i < (l.length : Int))) (.br (decide (0 ≤ i ∧ i < (l.length : Int)))
      (.br (!(goodC ((l.getD i.toNat 0).toNat : Int))) (.ok (.ret, [.str l, .bool false, .int .i64 i], []) s) (.ok (.norm, [.str l, r, .int .i64 (IntKind.i64.wrap (i + 1))], []) s)) .err)
      (.ok (.exit 0, [.str l, r, .int .i64 i], []) s)) (by kernel_rfl) ?_
    refine ⟨fun h => br_need (by simp at h ⊢; omega) ?_, fun h => ?_⟩
    · simp only [decide_eq_true_eq] at h
      have hlt : i.toNat < l.length := by omega
      have hdrop := List.drop_eq_getElem_cons hlt
      have hget : l.getD i.toNat 0 = l[i.toNat] := by simp [List.getD_eq_getElem?_getD, hlt]
      rw [hget, goodC_eq]
      refine ⟨fun hb => ?_, fun hb => ?_⟩
      · have hbad : bad l[i.toNat] = true := hb
        refine ⟨rfl, fun h => by simp at h, fun _ => ⟨_, .any (.same (.any .nil)), ?_⟩⟩
        exact hX.1 (by rw [hdrop, List.any_cons, hbad, Bool.true_or])
      · have hbad : bad l[i.toNat] = false := hb
        rw [wrap64_id (n := i + 1) (by omega) (by omega)]
        refine ⟨rfl, fun _ => ⟨by simp only; omega, br_need (by simp; omega) ?_⟩, fun h => absurd rfl h⟩
        have hi1 : (i + 1).toNat = i.toNat + 1 := by omega
        have e1 : (l.drop i.toNat).any bad = (l.drop (i.toNat + 1)).any bad := by rw [hdrop, List.any_cons, hbad, Bool.false_or]
        rw [hi1, ← e1]; exact hX
    · simp only [decide_eq_false_iff_not] at h
      refine ⟨rfl, fun h => by simp at h, fun _ => ⟨_, .any (.any (.any .nil)), ?_⟩⟩
      exact hX.2 (by rw [List.drop_eq_nil_of_le (by omega)]; rfl)
  · exact hF.elim

theorem l38_ok : l38.Ok Tryz.prog c38 := by
  refine ⟨by kernel_rfl, by kernel_rfl, fun xs _ => match xs with | [.lst _ l, _, .int _ i] => ((l.length : Int) - i).toNat | _ => 0, fun k xs s K Kp hl hF => ?_⟩
  simp only [l38, Bool.false_eq_true, if_false] at hF hl ⊢
  unfold F38 at hF
  split at hF
  · rename_i k o xs i lv
    obtain ⟨hg, hX⟩ := br_err hF
    clear hF
    simp only [Bool.and_eq_true, decide_eq_true_eq] at hg
    obtain ⟨⟨h0, hlen⟩, hall⟩ := hg
    refine Out.all_eq (y := .br (decide (i < (xs.length : Int))) (.br (decide (0 ≤ i) && isIntAt .u8 xs i.toNat)
      (.br (!(goodC (intAt xs i.toNat))) (.ok (.ret, [.lst o xs, .ptr 0 0, .int .i64 i], []) ⟨[.row 31 [.str [], .int .i64 8]], lv⟩) (.ok (.norm, [.lst o xs, .ptr 0 0, .int .i64 (IntKind.i64.wrap (i + 1))], []) ⟨[.row 31 [.str [], .int .i64 0]], lv⟩)) .err)
      (.ok (.exit 0, [.lst o xs, .ptr 0 0, .int .i64 i], []) ⟨[.row 31 [.str [], .int .i64 0]], lv⟩)) (by kernel_rfl) ?_
    refine ⟨fun h => ?_, fun h => ?_⟩
    · simp only [decide_eq_true_eq] at h
      have hlt : i.toNat < xs.length := by omega
      have hdrop := List.drop_eq_getElem_cons hlt
      obtain ⟨m, hm⟩ := isByteB_spec (List.all_eq_true.1 hall _ (List.getElem_mem hlt))
      have hx : xs[i.toNat]? = some (.int .u8 m) := by rw [List.getElem?_eq_getElem hlt, hm]
      rw [isIntAt_of hx, intAt_of hx, goodC_eq]
      refine br_need (by simp; omega) ⟨fun hb => ?_, fun hb => ?_⟩
      · refine ⟨rfl, fun h => by simp at h, fun _ => ⟨_, .any (.same (.any .nil)), ?_⟩⟩
        exact hX.1 (by rw [hdrop, List.any_cons, hm]; simp only [goodV]; rw [hb, Bool.true_or])
      · rw [wrap64_id (n := i + 1) (by omega) (by omega)]
        refine ⟨rfl, fun _ => ⟨by simp only; omega, br_need (by simp [hall, hlen]; omega) ?_⟩, fun h => absurd rfl h⟩
        have hi1 : (i + 1).toNat = i.toNat + 1 := by omega
        have e1 : ((xs.drop i.toNat).any fun v => !goodV v) = ((xs.drop (i.toNat + 1)).any fun v => !goodV v) := by
          rw [hdrop, List.any_cons, hm]; simp only [goodV]; rw [hb, Bool.false_or]
        rw [hi1, ← e1]; exact hX
    · simp only [decide_eq_false_iff_not] at h
      refine ⟨rfl, fun h => by simp at h, fun _ => ⟨_, .same (.same (.any .nil)), ?_⟩⟩
      exact hX.2 (by rw [List.drop_eq_nil_of_le (by omega)]; rfl)
  · exact hF.elim

theorem c38_ok : CfgOk Tryz.prog c38 := symCfg_ok tx_base .nil (by
  intro c hc
  simp only [List.mem_cons, List.not_mem_nil, or_false] at hc
  rcases hc with rfl | rfl
  · exact l20_ok
  · exact l38_ok)

theorem any_bad (l : List UInt8) : l.any bad = !(l.all good) := by
  induction l with
  | nil => rfl
  | cons x xs ih => simp [ih, Bool.not_and, bad]

/-- The reference's Valid: strings of a length that is bounded. -/
theorem has20 : Has Tryz.prog 20 (Ext.val validC).out := by
  refine Has.val c38_ok 10 ⟨_, Tryz.func20, rfl⟩ fun args v h => ?_
  unfold validC at h
  split at h
  · rename_i l
    simp only [Option.some.injEq] at h
    subst h
    refine ⟨rfl, ?_⟩
    refine Out.all_eq (y := .br (decide ((l.length : Int) > 1000)) (.ok (.bool false) {}) (.br (decide ((0 : Int) ≤ 0) && decide (l.length ≤ 1000000)) (.br ((l.drop (0 : Int).toNat).any bad) (.ok (.bool false) {}) (.ok (.bool true) {})) .err)) (by kernel_rfl) ?_
    have hz : (0 : Int).toNat = 0 := rfl
    rw [hz, List.drop_zero, any_bad]
    unfold valid
    refine ⟨fun h => ?_, fun h => ?_⟩
    · simp only [decide_eq_true_eq] at h
      have h' : ¬ l.length ≤ 1000 := by omega
      exact ⟨by simp only [h', decide_false, Bool.false_and]; rfl, rfl⟩
    · simp only [decide_eq_false_iff_not] at h
      have h' : l.length ≤ 1000 := by omega
      refine br_need (by simp; omega) ?_
      simp only [h', decide_true, Bool.true_and]
      cases l.all good
      · exact br_yes rfl ⟨rfl, rfl⟩
      · exact br_no rfl ⟨rfl, rfl⟩
  · simp at h

def outC : List V → Option V
  | [.lst _ xs] => if xs.all isByteB then some (.agg [.str (madeStr (xs.map byteOf)), .int .i64 (madeErr (xs.map byteOf))]) else none
  | _ => none
def outH : List V → St → Out V
  | [.lst _ xs], s => .br (xs.all isByteB && xs.all (fun v => decide (0 ≤ intOr v) && decide (intOr v ≤ 255))) (.ok (.agg [.str (madeStr (xs.map byteOf)), .int .i64 (madeErr (xs.map byteOf))]) s) .err
  | _, _ => .err

theorem all_goodV {xs : List V} (h : xs.all isByteB = true) (hr : xs.all (fun v => decide (0 ≤ intOr v) && decide (intOr v ≤ 255)) = true) : xs.all goodV = (xs.map byteOf).all good := by
  rw [List.all_map]
  induction xs with
  | nil => rfl
  | cons x xs ih =>
    simp only [List.all_cons, Bool.and_eq_true] at h hr ⊢
    obtain ⟨n, rfl⟩ := isByteB_spec h.1
    have hn : 0 ≤ n ∧ n ≤ 255 := ⟨of_decide_eq_true hr.1.1, of_decide_eq_true hr.1.2⟩
    rw [ih h.2 (by simpa using hr.2)]
    congr 1
    simp only [goodV, Function.comp, good, byteOf]
    have : ((UInt8.ofNat n.toNat).toNat : Int) = n := by rw [UInt8.toNat_ofNat']; omega
    rw [this]

theorem has38 : Has Tryz.prog 38 outH := by
  refine Has.shut c38_ok 10 ⟨_, Tryz.func38, rfl⟩ fun args s K Kp h => ?_
  unfold outH at h
  split at h
  · rename_i o xs
    obtain ⟨hg, hX⟩ := br_err h
    simp only [Bool.and_eq_true] at hg
    obtain ⟨hall, hr⟩ := hg
    simp only [List.map_cons, List.map_nil, strip_lst]
    refine ⟨by rw [closedL, closed_lst (closedL_bytes hall)]; rfl, ?_⟩
    refine Out.all_eq (y := .br (decide ((xs.length : Int) > 1000)) (.ok (.agg [.str [], .int .i64 3]) ⟨[.row 31 [.str [], .int .i64 3]], []⟩)
      (.br (decide ((0 : Int) ≤ 0) && decide (xs.length ≤ 1000000) && xs.all isByteB)
        (.br ((xs.drop (0 : Int).toNat).any fun v => !goodV v) (.ok (.agg [.str [], .int .i64 8]) ⟨[.row 31 [.str [], .int .i64 8]], []⟩)
          (.br (xs.all isByteB) (.ok (.agg [.str (xs.map byteOf), .int .i64 0]) ⟨[.row 31 [.str (xs.map byteOf), .int .i64 0]], []⟩) .err)) .err)) (by kernel_rfl) ?_
    have hz : (0 : Int).toNat = 0 := rfl
    rw [hz, List.drop_zero, any_not, all_goodV hall hr]
    unfold madeStr madeErr valid at hX
    rw [List.length_map] at hX
    refine ⟨fun h => ?_, fun h => ?_⟩
    · simp only [decide_eq_true_eq] at h
      have h1 : ¬ xs.length ≤ 1000 := by omega
      have h2 : xs.length > 1000 := by omega
      simp only [h1, h2, decide_false, decide_true, Bool.false_and, cond_true, cond_false] at hX
      exact ⟨rfl, hX⟩
    · simp only [decide_eq_false_iff_not] at h
      have h1 : xs.length ≤ 1000 := by omega
      have h2 : ¬ xs.length > 1000 := by omega
      simp only [h1, h2, decide_false, decide_true, Bool.true_and, cond_true, cond_false] at hX
      refine br_need (by simp [hall]; omega) ?_
      cases hgd : (xs.map byteOf).all good with
      | true => rw [hgd] at hX; exact br_no rfl (br_need hall ⟨rfl, hX⟩)
      | false => rw [hgd] at hX; exact br_yes rfl ⟨rfl, hX⟩
  · exact h.elim
end Go.Ev
