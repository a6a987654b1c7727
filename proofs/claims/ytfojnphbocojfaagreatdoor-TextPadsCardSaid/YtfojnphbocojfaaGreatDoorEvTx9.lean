/- The text seat: the law. -/
import Derived.Test.YtfojnphbocojfaaGreatDoorEvTx8
import Derived.Test.YtfojnphbocojfaaGreatDoorEvTxH
set_option linter.all false
set_option linter.unusedVariables false
set_option linter.unusedSimpArgs false
namespace Go.Ev
open Go Go.RowKit Go.Proofs Spec
attribute [local irreducible] evFn roundOut roundCut loopCode ctxOf Tryz.prog

section
variable [Glob]
def strT : List V → St → Out V
  | [.str a, .int .i64 e, .agg [.str b, .int .i64 f]], s => .br ((a == b) && (e == f)) (.ok (.bool true) s) .err
  | _, _ => .err
theorem has12T : Has Tryz.prog 12 strT := by
  refine ⟨fun args s base g w cargs K Kp hw hargs h => has12.ok args s base g w cargs K Kp hw hargs ?_, has12.body⟩
  unfold strT at h
  split at h
  · obtain ⟨hc, h⟩ := br_err h
    simp only [Ext.out, strC, Out.ofOption, hc]
    exact h
  · exact h.elim
def longF : List V → St → Out V
  | [.str l], s => .br (decide (l.length ≤ 1200)) (.ok (.bool false) s) .err
  | _, _ => .err
def longT : List V → St → Out V
  | [.str l], s => .br (!decide (l.length ≤ 1200)) (.ok (.bool true) s) .err
  | _, _ => .err
theorem has5F : Has Tryz.prog 5 longF := by
  refine ⟨fun args s base g w cargs K Kp hw hargs h => has5.ok args s base g w cargs K Kp hw hargs ?_, has5.body⟩
  unfold longF at h
  split at h
  · rename_i l
    obtain ⟨hc, h⟩ := br_err h
    simp only [decide_eq_true_eq] at hc
    have : decide ((l.length : Int) > 1200) = false := by simp; omega
    simp only [Ext.out, longC, Out.ofOption, this]
    exact h
  · exact h.elim
theorem has5T : Has Tryz.prog 5 longT := by
  refine ⟨fun args s base g w cargs K Kp hw hargs h => has5.ok args s base g w cargs K Kp hw hargs ?_, has5.body⟩
  unfold longT at h
  split at h
  · rename_i l
    obtain ⟨hc, h⟩ := br_err h
    have hc : ¬ l.length ≤ 1200 := by simpa using hc
    have : decide ((l.length : Int) > 1200) = true := by simp; omega
    simp only [Ext.out, longC, Out.ofOption, this]
    exact h
  · exact h.elim

def exts3 (h5 : List V → St → Out V) : Exts := [(4, .val headC), (5, .full h5), (6, .full (padH fit)), (7, .full (padH right)), (8, .full (padH center)), (9, .full copiesH), (10, .val revC), (11, .val stripC), (12, .full strT),
  (13, .full (padAH fit)), (14, .full (padAH right)), (15, .full (padAH center)), (16, .full copiesAH), (17, .val revAC), (18, .val stripAC), (19, .val validC), (20, .val validC)]
def c3 (h5 : List V → St → Out V) : Cfg := symCfg txCfg (fun _ => false) (exts3 h5) []
end

theorem c3_ok (B : Nat) {h5 : List V → St → Out V} (hh : letI := txGlob B; Has Tryz.prog 5 h5) : letI := txGlob B; CfgOk Tryz.prog (c3 h5) := by
  letI := txGlob B
  exact symCfg_ok tx_base (.cons (has4 B) (.cons hh (.cons has6 (.cons has7 (.cons has8 (.cons has9 (.cons has10 (.cons has11 (.cons has12T (.cons has13 (.cons has14 (.cons has15 (.cons has16 (.cons has17 (.cons has18 (.cons has19 (.cons has20 .nil))))))))))))))))) (by simp)

/-- Both sides say the same. -/
def eqR (ok : Bool) (r : List UInt8) : Bool := (((bif ok then madeStr r else []) == (bif ok then madeStr r else [])) && ((bif ok then madeErr r else 1) == (bif ok then madeErr r else 1)))
def eqV2 (a : List UInt8) (e : Int) : Bool := (a == a) && (e == e)
def gN (l : List UInt8) (n : Int) : Bool := decide (n ≤ 9223372036854775807) && decide (l.length ≤ 100000)

theorem law_short (l : List UInt8) (n p side : Int) : evFn Tryz.prog (c3 longF) 10 3 [.str l, .int .i64 n, .int .u8 p, .int .i64 side] {} =
    .br (decide (l.length ≤ 1200)) (.br (gN l n) (.br (gN l n) (.br (gN l n) (.br (gN l n)
      (.br (gN l n) (.br (eqR (valid l && goodI p && decide (n ≥ 0)) (fit l n (byteOf (.int .u8 p))))
        (.br (gN l n) (.br (eqR (valid l && goodI p && decide (n ≥ 0)) (right l n (byteOf (.int .u8 p))))
          (.br (gN l n) (.br (eqR (valid l && goodI p && decide (n ≥ 0)) (center l n (byteOf (.int .u8 p))))
            (.br (gN l n) (.br (eqR (valid l && decide (n ≥ 0)) (Spec.many l n))
              (.br (eqV2 (bif valid l then l.reverse else []) (bif valid l then 0 else 1))
                (.br (eqV2 (bif stripOk l side p then Spec.strip l side (byteOf (.int .u8 p)) else []) (bif stripOk l side p then 0 else 1))
                  (.ok (.bool (valid l == valid l)) {}) .err) .err) .err) .err) .err) .err) .err) .err) .err) .err) .err) .err) .err) .err) .err := by kernel_rfl

theorem law_long (l : List UInt8) (n p side : Int) : evFn Tryz.prog (c3 longT) 10 3 [.str l, .int .i64 n, .int .u8 p, .int .i64 side] {} =
    .br (!decide (l.length ≤ 1200)) (.ok (.bool true) {}) .err := by kernel_rfl

/-- **TextPads is true of every input.** -/
theorem law_true (B : Nat) (l : List UInt8) (n p side : Int) (hn : n ≤ 9223372036854775807) :
    letI := txGlob B
    ∃ cfg, CfgOk Tryz.prog cfg ∧ (evFn Tryz.prog cfg 10 3 [.str l, .int .i64 n, .int .u8 p, .int .i64 side] {}).all (fun v _ => v = .bool true) (fun _ _ => False) := by
  letI := txGlob B
  by_cases h : l.length ≤ 1200
  · refine ⟨c3 longF, c3_ok B has5F, ?_⟩
    rw [law_short]
    have hg : gN l n = true := by unfold gN; simp [hn]; omega
    have e1 : ∀ ok r, eqR ok r = true := by intro ok r; unfold eqR; simp
    have e2 : ∀ a e, eqV2 a e = true := by intro a e; unfold eqV2; simp
    rw [hg, e1, e1, e1, e1, e2, e2]
    refine br_need (by simpa using h) (br_need rfl (br_need rfl (br_need rfl (br_need rfl (br_need rfl (br_need rfl (br_need rfl (br_need rfl (br_need rfl (br_need rfl (br_need rfl (br_need rfl (br_need rfl (br_need rfl ?_))))))))))))))
    show V.bool (valid l == valid l) = V.bool true
    simp
  · refine ⟨c3 longT, c3_ok B has5T, ?_⟩
    rw [law_long]
    exact br_need (by simpa using h) rfl

/-- What a call comes to. -/
theorem walk (W : World) (s : ByteArray) (n p side : Int) (hn : n ≤ 9223372036854775807) (ht : Lib.TabIs Tryz.prog W "strings.asciiSpace" .u8 Lib.asciiSpaceTab) :
    Calls Tryz.prog 3 #[.string s, .int .i64 n, .int .u8 p, .int .i64 side] W fun e w' => e = .returned (.bool true) ∧ Below W.heap.size W w' := by
  letI := txGlob W.heap.size
  obtain ⟨cfg, hc, hall⟩ := law_true W.heap.size s.data.toList n p side hn
  let g : Gh := { loc := [], C := fun _ _ => none, hist := fun _ _ => none }
  have hargs : VRs g [.str s.data.toList, .int .i64 n, .int .u8 p, .int .i64 side] #[.string s, .int .i64 n, .int .u8 p, .int .i64 side] :=
    VRs.cons (.str s) (VRs.cons (.int _ _) (VRs.cons (.int _ _) (VRs.cons (.int _ _) VRs.nil)))
  refine (sound hc (g := g) rfl rfl (fun b o v h => by simp [g] at h) ⟨Nat.le_refl _, Lib.tabBelow_of_tabIs ht⟩ hargs (K := fun v => v = .bool true) hall).mono ?_
  rintro e w' ⟨v, c, g', rfl, rfl, hv, hb⟩
  cases hv
  exact ⟨rfl, hb⟩

end Go.Ev
