/- The text seat: Reverse and Strip. -/
import Derived.Test.YtfojnphbocojfaaGreatDoorEvTx4
import Derived.Laws.RangeString
set_option linter.all false
set_option linter.unusedVariables false
set_option linter.unusedSimpArgs false
namespace Go.Ev
open Go Go.RowKit Go.Proofs Spec
variable [Glob]
attribute [local irreducible] evFn roundOut loopCode ctxOf Tryz.prog

/-- What a row is when the exchanges from the i-th place on are done. -/
def revI (i : Nat) (cells : List V) : List V := (List.range cells.length).map fun k => if i ≤ k ∧ k < cells.length - i then cells.getD (cells.length - 1 - k) .any else cells.getD k .any

theorem revI_get (i : Nat) (cells : List V) (k : Nat) : (revI i cells)[k]? = if k < cells.length then some (if i ≤ k ∧ k < cells.length - i then cells.getD (cells.length - 1 - k) .any else cells.getD k .any) else none := by
  unfold revI
  rw [List.getElem?_map]
  by_cases h : k < cells.length
  · rw [if_pos h, List.getElem?_range h]; rfl
  · rw [if_neg h, List.getElem?_eq_none (by simpa using h)]; rfl

theorem revI_length (i : Nat) (cells : List V) : (revI i cells).length = cells.length := by simp [revI]

theorem revI_end {i : Nat} {cells : List V} (h : cells.length ≤ 2 * i + 1) : revI i cells = cells := by
  apply List.ext_getElem?
  intro k
  rw [revI_get]
  by_cases hk : k < cells.length
  · rw [if_pos hk]
    split
    · rename_i hc
      have : cells.length - 1 - k = k := by omega
      rw [this]
      simp [List.getD_eq_getElem?_getD, hk]
    · simp [List.getD_eq_getElem?_getD, hk]
  · rw [if_neg hk, List.getElem?_eq_none (by omega)]

theorem revI_zero (cells : List V) : revI 0 cells = cells.reverse := by
  apply List.ext_getElem?
  intro k
  rw [revI_get]
  by_cases hk : k < cells.length
  · rw [if_pos hk, if_pos ⟨by omega, by omega⟩, List.getElem?_reverse hk, List.getD_eq_getElem?_getD, List.getElem?_eq_getElem (by omega : cells.length - 1 - k < cells.length)]
    rfl
  · rw [if_neg hk, List.getElem?_eq_none (by simpa using hk)]

theorem revI_step {i : Nat} {cells : List V} {x y : V} (h : 2 * i + 1 < cells.length) (hx : cells[i]? = some x) (hy : cells[cells.length - 1 - i]? = some y) :
    revI (i + 1) ((cells.set i y).set (cells.length - 1 - i) x) = revI i cells := by
  apply List.ext_getElem?
  intro k
  rw [revI_get, revI_get]
  simp only [List.length_set]
  by_cases hk : k < cells.length
  · rw [if_pos hk, if_pos hk]
    have hg : ∀ m, ((cells.set i y).set (cells.length - 1 - i) x).getD m .any = if m = cells.length - 1 - i then x else if m = i then y else cells.getD m .any := by
      intro m
      simp only [List.getD_eq_getElem?_getD, List.getElem?_set, List.length_set]
      by_cases h1 : m = cells.length - 1 - i
      · have h3 : cells.length - 1 - i < cells.length := by omega
        simp [h1, h3]
      · have h1' : ¬ (cells.length - 1 - i = m) := fun e => h1 e.symm
        by_cases h2 : m = i
        · have h3 : i < cells.length := by omega
          subst h2
          simp [h1, h1', h3]
        · have h2' : ¬ (i = m) := fun e => h2 e.symm
          simp [h1, h1', h2, h2']
    have hxd : cells.getD i .any = x := by rw [List.getD_eq_getElem?_getD, hx]; rfl
    have hyd : cells.getD (cells.length - 1 - i) .any = y := by rw [List.getD_eq_getElem?_getD, hy]; rfl
    rw [hg, hg]
    congr 1
    by_cases c1 : k = i
    · subst c1
      rw [if_neg (by omega), if_neg (by omega), if_pos rfl, if_pos ⟨by omega, by omega⟩, hyd]
    · by_cases c2 : k = cells.length - 1 - i
      · subst c2
        rw [if_neg (by omega), if_pos rfl, if_pos ⟨by omega, by omega⟩]
        have : cells.length - 1 - (cells.length - 1 - i) = i := by omega
        rw [this, hxd]
      · by_cases c3 : i ≤ k ∧ k < cells.length - i
        · rw [if_pos ⟨by omega, by omega⟩, if_pos c3, if_neg (by omega), if_neg (by omega)]
        · rw [if_neg (by omega), if_neg c3, if_neg c2, if_neg c1]
  · rw [if_neg hk, if_neg hk]

/-- The loop of slices.Reverse over a row of bytes. -/
def revF : Nat → List V → St → Out (Ex × List V)
  | _, [.sl 0 0 l _, .int .i64 i, .int .i64 j], ⟨[.row 5 cells], lv⟩ =>
    .br (decide (l = cells.length) && decide (0 ≤ i) && decide (j = cells.length - 1 - i) && decide (cells.length ≤ 1000000) && decide (i ≤ cells.length) && cells.all isByteB)
      (.ok (.exit 0, [.any, .any, .any]) ⟨[.row 5 (revI i.toNat cells)], lv⟩) .err
  | _, _, _ => .err

def l33 : LoopC := ⟨33, 1, 28, [0, 2, 3], revF, false⟩
def c33 : Cfg := symCfg txCfg (fun _ => true) [(27, .val vlistC)] [l33] (fun f => f = 33 || f = 10) (fun f r _ => f = 10 && r = 4)

theorem l33_ok : l33.Ok Tryz.prog c33 := by
  refine ⟨by kernel_rfl, by kernel_rfl, fun xs _ => match xs with | [_, .int _ i, .int _ j] => (j - i + 1).toNat | _ => 0, fun k xs s K Kp hl hF => ?_⟩
  simp only [l33] at hF hl ⊢
  unfold revF at hF
  split at hF
  · rename_i l c i j cells lv
    obtain ⟨hg, hX⟩ := br_err hF
    clear hF
    simp only [Bool.and_eq_true, decide_eq_true_eq] at hg
    obtain ⟨⟨⟨⟨⟨rfl, h0⟩, hj⟩, hlen⟩, hil⟩, hall⟩ := hg
    refine Out.all_eq (y := .br (decide (i < j))
      (.br (decide (0 ≤ j ∧ j < (cells.length : Int))) (.br (isIntAt .u8 cells (0 + j.toNat * 1)) (.br (decide (0 ≤ i ∧ i < (cells.length : Int))) (.br (isIntAt .u8 cells (0 + i.toNat * 1))
        (.br (decide (0 ≤ i ∧ i < (cells.length : Int))) (.br (decide (0 + i.toNat * 1 + 1 ≤ cells.length)) (.br (decide (0 ≤ j ∧ j < (cells.length : Int)))
          (.br (decide (0 + j.toNat * 1 + 1 ≤ (cells.set (0 + i.toNat * 1) (.int .u8 (intAt cells (0 + j.toNat * 1)))).length))
            (.ok (.norm, [.sl 0 0 cells.length c, .int .i64 (IntKind.i64.wrap (i + 1)), .int .i64 (IntKind.i64.wrap (j - 1))], [])
              ⟨[.row 5 ((cells.set (0 + i.toNat * 1) (.int .u8 (intAt cells (0 + j.toNat * 1)))).set (0 + j.toNat * 1) (.int .u8 (intAt cells (0 + i.toNat * 1))))], lv⟩) .err) .err) .err) .err) .err) .err) .err) .err)
      (.ok (.exit 0, [.sl 0 0 cells.length c, .int .i64 i, .int .i64 j], []) ⟨[.row 5 cells], lv⟩)) (by kernel_rfl) ?_
    refine ⟨fun hij => ?_, fun hij => ?_⟩
    · simp only [decide_eq_true_eq] at hij
      have hin : i.toNat < cells.length := by omega
      have hjn : j.toNat < cells.length := by omega
      obtain ⟨x, hx⟩ := isByteB_spec (List.all_eq_true.1 hall _ (List.getElem_mem hin))
      obtain ⟨y, hy⟩ := isByteB_spec (List.all_eq_true.1 hall _ (List.getElem_mem hjn))
      have hx' : cells[i.toNat]? = some (.int .u8 x) := by rw [List.getElem?_eq_getElem hin, hx]
      have hy' : cells[j.toNat]? = some (.int .u8 y) := by rw [List.getElem?_eq_getElem hjn, hy]
      have ei : 0 + i.toNat * 1 = i.toNat := by omega
      have ej : 0 + j.toNat * 1 = j.toNat := by omega
      rw [ei, ej, isIntAt_of hx', isIntAt_of hy', intAt_of hx', intAt_of hy']
      refine br_need (by simp; omega) (br_need rfl (br_need (by simp; omega) (br_need rfl (br_need (by simp; omega) (br_need (by simp; omega) (br_need (by simp; omega) (br_need (by simp; omega) ?_)))))))
      refine ⟨rfl, fun _ => ?_, fun h => absurd rfl h⟩
      rw [wrap64_id (n := i + 1) (by omega) (by omega), wrap64_id (n := j - 1) (by omega) (by omega)]
      refine ⟨by simp only; omega, ?_⟩
      have hjj : j.toNat = cells.length - 1 - i.toNat := by omega
      have hi1 : (i + 1).toNat = i.toNat + 1 := by omega
      simp only [revF, List.length_set]
      refine br_need ?_ ?_
      · simp only [Bool.and_eq_true, decide_eq_true_eq]
        refine ⟨⟨⟨⟨⟨trivial, by omega⟩, by omega⟩, hlen⟩, by omega⟩, ?_⟩
        rw [List.all_eq_true]
        intro v hv
        rcases List.mem_or_eq_of_mem_set hv with hv | rfl
        · rcases List.mem_or_eq_of_mem_set hv with hv | rfl
          · exact List.all_eq_true.1 hall _ hv
          · rfl
        · rfl
      · rw [hi1]
        rw [hjj] at hy' ⊢
        rw [revI_step (by omega) hx' hy']
        exact hX
    · simp only [decide_eq_false_iff_not] at hij
      refine ⟨rfl, fun h => by simp at h, fun _ => ⟨_, .any (.any (.any .nil)), ?_⟩⟩
      rw [revI_end (by omega)] at hX
      exact hX
  · exact hF.elim

theorem c33_ok : CfgOk Tryz.prog c33 := symCfg_ok tx_base (.cons has27 .nil) (by intro c hc; rcases List.mem_singleton.1 hc with rfl; exact l33_ok)

/-! Reverse -/
def revC : List V → Option V
  | [.str l] => some (.tup [.str (bif valid l then l.reverse else []), .int .i64 (bif valid l then 0 else 1)])
  | _ => none

def bytesV (l : List UInt8) : List V := l.map fun c : UInt8 => V.int .u8 c.toNat
theorem byteOf_toNat (c : UInt8) (k : IntKind) : byteOf (.int k c.toNat) = c := by
  simp only [byteOf, Int.toNat_natCast]
  exact UInt8.ofNat_toNat
theorem bytesV_back (l : List UInt8) : (bytesV l).map byteOf = l := by
  unfold bytesV
  rw [List.map_map]
  have : byteOf ∘ (fun c : UInt8 => V.int .u8 c.toNat) = id := by funext c; exact byteOf_toNat c _
  rw [this, List.map_id]

theorem has10 : Has Tryz.prog 10 (Ext.val revC).out := by
  refine Has.val c33_ok 10 ⟨_, Tryz.func10, rfl⟩ fun args v h => ?_
  unfold revC at h
  split at h
  · rename_i l
    simp only [Option.some.injEq] at h
    subst h
    refine ⟨rfl, ?_⟩
    refine Out.all_eq (y := .br ((bif [V.str l].all validV then (0 : Int) else 1) != 0) (.ok (.tup [.str [], .int .i64 (bif [V.str l].all validV then 0 else 1)]) {})
      (.br (decide (l.length ≤ 1099511627776)) (.br (decide (l.length = (bytesV l).length) && decide ((0 : Int) ≤ 0) && decide (IntKind.i64.wrap ((l.length : Int) - 1) = (bytesV l).length - 1 - 0) && decide ((bytesV l).length ≤ 1000000) && decide ((0 : Int) ≤ (bytesV l).length) && (bytesV l).all isByteB)
        (.br (decide (0 + l.length ≤ (revI (0 : Int).toNat (bytesV l)).length) && (((revI (0 : Int).toNat (bytesV l)).drop 0).take l.length).all isByteB)
          (.ok (.tup [.str ((((revI (0 : Int).toNat (bytesV l)).drop 0).take l.length).map byteOf), .int .i64 0]) { heap := [.row 5 (revI (0 : Int).toNat (bytesV l))] }) .err) .err) .err)) (by kernel_rfl) ?_
    have hva : [V.str l].all validV = valid l := all1 _ _
    simp only [hva]
    cases hv : valid l with
    | false => exact br_yes rfl ⟨rfl, rfl⟩
    | true =>
      have hlen : l.length ≤ 1000 := by
        unfold valid at hv
        simp only [Bool.and_eq_true, decide_eq_true_eq] at hv
        exact hv.1
      have hb : (bytesV l).length = l.length := by simp [bytesV]
      have hall : (bytesV l).all isByteB = true := bytes_isByte l
      refine br_no rfl (br_need (by simp; omega) (br_need ?_ ?_))
      · rw [wrap64_id (by omega) (by omega), hall, hb]
        simp only [Bool.and_eq_true, decide_eq_true_eq]
        exact ⟨⟨⟨⟨⟨trivial, Int.le_refl _⟩, by omega⟩, by omega⟩, by omega⟩, trivial⟩
      · have hz : (0 : Int).toNat = 0 := rfl
        rw [hz, revI_zero, List.drop_zero]
        have ht : (bytesV l).reverse.take l.length = (bytesV l).reverse := List.take_of_length_le (by simp [hb])
        rw [ht]
        refine br_need ?_ ⟨?_, rfl⟩
        · simp [hb, hall]
        · rw [List.map_reverse, bytesV_back]
          rfl
  · simp at h

/-! Strip -/
namespace Spec
def stripL (t l : List UInt8) : List UInt8 := l.dropWhile fun b => t.contains b
def stripR (t l : List UInt8) : List UInt8 := (l.reverse.dropWhile fun b => t.contains b).reverse
def ascii (l : List UInt8) : Bool := l.all fun b => decide (b.toNat < 128)
end Spec

def hasR (t : List UInt8) (c : Int) : Bool := t.any fun d => ((d.toNat : Int) == c)

/-- The inner loop of cutLeft. -/
def inF35 : Nat → List V → St → Out (Ex × List V)
  | _, [a0, a1, a4, a5, .int .i32 c, .bool b, a11, .ptr 1 0], ⟨[x0, .sit t q], lv⟩ =>
    .br (ascii t && decide (q ≤ t.length)) (.ok (.exit 2, [a0, a1, a4, a5, .any, .bool (b || hasR (t.drop q) c), a11, .any]) ⟨[x0, .sit t t.length], lv⟩) .err
  | _, _, _ => .err
def l35i : LoopC := ⟨35, 6, 32, [0, 1, 4, 5, 6, 7, 11, 17], inF35, false⟩

/-- The outer loop of cutLeft. -/
def notIn (t : List UInt8) (b : UInt8) : Bool := !(t.contains b)
def outF35 : Nat → List V → St → Out (Ex × List V)
  | _, [.str l, .str t, .str _, .ptr 0 0], ⟨[.sit l' pos], lv⟩ =>
    .br (decide (l' = l) && ascii l && ascii t && decide (pos ≤ l.length) && decide (l.length ≤ 1000000))
      (.br ((l.drop pos).any (notIn t)) (.ok (.ret, [.any, .any, .str (l.drop (pos + (l.drop pos).findIdx (notIn t))), .any]) ⟨[.sit l (pos + (l.drop pos).findIdx (notIn t) + 1), .sit t t.length], lv⟩)
        (.ok (.exit 0, [.any, .any, .any, .any]) ⟨[.sit l l.length], lv⟩)) .err
  | _, _, _ => .err
def l35o : LoopC := ⟨35, 2, 32, [0, 1, 4, 11], outF35, true⟩
def c35 : Cfg := symCfg txCfg (fun _ => true) [] [l35i, l35o]

/-- The inner loop of cutRight. -/
def inF34 : Nat → List V → St → Out (Ex × List V)
  | _, [a0, a1, a4, .int .i32 c, a6, .bool b, .ptr 0 0], ⟨[.sit t q], lv⟩ =>
    .br (ascii t && decide (q ≤ t.length)) (.ok (.exit 2, [a0, a1, a4, .any, a6, .bool (b || hasR (t.drop q) c), .any]) ⟨[.sit t t.length], lv⟩) .err
  | _, _, _ => .err
def l34i : LoopC := ⟨34, 5, 39, [0, 1, 4, 5, 6, 7, 19], inF34, false⟩
def outF34 : Nat → List V → St → Out (Ex × List V)
  | _ + 6, [.str l, .str t, .str _], ⟨[], lv⟩ =>
    .br (ascii l && ascii t && decide (l.length ≤ 1000000))
      (.br (l.any (notIn t)) (.ok (.ret, [.any, .any, .str (stripR t l)]) ⟨[.sit t t.length], lv⟩)
        (.ok (.exit 0, [.str [], .any, .any]) ⟨[], lv⟩)) .err
  | _, _, _ => .err
def l34o : LoopC := ⟨34, 1, 39, [0, 1, 4], outF34, true⟩
def l58 : LoopC := ⟨58, 10, 51, [], fun _ _ _ => .err, false⟩
def c34 : Cfg := symCfg txCfg (fun _ => true) [] [l34i, l34o, l58]

theorem dec_ascii {t : List UInt8} {q : Nat} (ha : ascii t = true) (h : q < t.length) : Utf8.decode ⟨t.toArray⟩ q = (t[q].toNat, 1) := by
  have hs : q < (ByteArray.mk t.toArray).size := by simpa [ByteArray.size] using h
  have he : (ByteArray.mk t.toArray)[q] = t[q] := by
    show t.toArray[q] = t[q]
    simp
  have hlt : t[q].toNat < 128 := by
    have := List.all_eq_true.1 ha _ (List.getElem_mem h)
    simpa using this
  have := decode_ascii ⟨t.toArray⟩ q hs (by rw [he]; exact hlt)
  rw [he] at this
  exact this

theorem hasR_drop {t : List UInt8} {q : Nat} (h : q < t.length) (c : Int) : hasR (t.drop q) c = ((c == (t[q].toNat : Int)) || hasR (t.drop (q + 1)) c) := by
  rw [List.drop_eq_getElem_cons h]
  simp only [hasR, List.any_cons]
  congr 1
  exact BEq.comm

theorem hasR_contains (t : List UInt8) (b : UInt8) : hasR t (b.toNat : Int) = t.contains b := by
  unfold hasR
  rw [List.contains_eq_any_beq]
  congr 1
  funext d
  by_cases h : b = d
  · subst h; simp
  · have h1 : ¬ ((d.toNat : Int) = (b.toNat : Int)) := by
      intro e
      exact h (UInt8.toNat_inj.1 (by omega))
    rw [beq_eq_false_iff_ne.2 h1, beq_eq_false_iff_ne.2 h]

theorem l35i_ok : l35i.Ok Tryz.prog c35 := by
  refine ⟨by kernel_rfl, by kernel_rfl, fun _ s => match s with | ⟨[_, .sit t q], _⟩ => t.length - q | _ => 0, fun k xs s K Kp hl hF => ?_⟩
  simp only [l35i, Bool.false_eq_true, if_false] at hF hl ⊢
  unfold inF35 at hF
  split at hF
  · rename_i a0 a1 a4 a5 c b a11 x0 t q lv
    obtain ⟨hg, hX⟩ := br_err hF
    simp only [Bool.and_eq_true, decide_eq_true_eq] at hg
    obtain ⟨ha, hq⟩ := hg
    refine Out.all_eq (y := .br (decide (q < t.length))
      (.br true (.ok (.norm, [a0, a1, a4, a5, .int .i32 c, .bool (bif b then true else (c == ((Utf8.decode ⟨t.toArray⟩ q).1 : Int))), a11, .ptr 1 0], []) ⟨[x0, .sit t (q + (Utf8.decode ⟨t.toArray⟩ q).2)], lv⟩)
        (.ok (.exit 2, [a0, a1, a4, a5, .int .i32 c, .bool b, a11, .ptr 1 0], []) ⟨[x0, .sit t (q + (Utf8.decode ⟨t.toArray⟩ q).2)], lv⟩))
      (.br false .err (.ok (.exit 2, [a0, a1, a4, a5, .int .i32 c, .bool b, a11, .ptr 1 0], []) ⟨[x0, .sit t q], lv⟩))) (by kernel_rfl) ?_
    refine ⟨fun h => br_yes rfl ?_, fun h => br_no rfl ?_⟩
    · simp only [decide_eq_true_eq] at h
      rw [dec_ascii ha h]
      refine ⟨rfl, fun _ => ⟨by simp only; omega, ?_⟩, fun h => absurd rfl h⟩
      refine br_need (by simp [ha]; omega) ?_
      have e : ((bif b then true else (c == (t[q].toNat : Int))) || hasR (t.drop (q + 1)) c) = (b || hasR (t.drop q) c) := by
        rw [hasR_drop h]; cases b <;> simp
      rw [e]; exact hX
    · simp only [decide_eq_false_iff_not] at h
      have hqe : q = t.length := by omega
      subst hqe
      refine ⟨rfl, fun h => by simp at h, fun _ => ⟨_, .same (.same (.same (.same (.any (.same (.same (.any .nil))))))), ?_⟩⟩
      have e : (b || hasR (t.drop t.length) c) = b := by rw [List.drop_length]; simp [hasR]
      rw [e] at hX; exact hX
  · exact hF.elim

theorem l35o_ok : l35o.Ok Tryz.prog c35 := by
  refine ⟨by kernel_rfl, by kernel_rfl, fun _ s => match s with | ⟨[.sit t q], _⟩ => t.length - q | _ => 0, fun k xs s K Kp hl hF => ?_⟩
  simp only [l35o, if_true] at hF hl ⊢
  unfold outF35 at hF
  split at hF
  · rename_i l t r l' pos lv
    obtain ⟨hg, hX⟩ := br_err hF
    clear hF
    simp only [Bool.and_eq_true, decide_eq_true_eq] at hg
    obtain ⟨⟨⟨⟨rfl, ha⟩, hat⟩, hpos⟩, hlen⟩ := hg
    refine Out.all_eq (y := .br (decide (pos < l'.length))
      (.br true (.br (ascii t && true)
        (.br (!(false || hasR t ((Utf8.decode ⟨l'.toArray⟩ pos).1 : Int)))
          (.br (decide ((0 : Int) ≤ (pos : Int) ∧ (pos : Int) ≤ (l'.length : Int) ∧ (l'.length : Int) ≤ (l'.length : Int)))
            (.ok (.ret, [.str l', .str t, .str ((l'.drop (pos : Int).toNat).take ((l'.length : Int).toNat - (pos : Int).toNat)), .ptr 0 0], []) ⟨[.sit l' (pos + (Utf8.decode ⟨l'.toArray⟩ pos).2), .sit t t.length], lv⟩) .err)
          (.br true (.ok (.norm, [.str l', .str t, .str r, .ptr 0 0], []) ⟨[.sit l' (pos + (Utf8.decode ⟨l'.toArray⟩ pos).2)], lv⟩) .err)) .err)
        (.ok (.exit 0, [.str l', .str t, .str r, .ptr 0 0], []) ⟨[.sit l' (pos + (Utf8.decode ⟨l'.toArray⟩ pos).2)], lv⟩))
      (.br false .err (.ok (.exit 0, [.str l', .str t, .str r, .ptr 0 0], []) ⟨[.sit l' pos], lv⟩))) (by kernel_rfl) ?_
    refine ⟨fun h => br_yes rfl (br_need (by rw [hat]; rfl) ?_), fun h => br_no rfl ?_⟩
    · simp only [decide_eq_true_eq] at h
      rw [dec_ascii ha h, Bool.false_or, hasR_contains]
      have hdrop := List.drop_eq_getElem_cons h
      refine ⟨fun hn => ?_, fun hn => br_need rfl ?_⟩
      · have hni : notIn t l'[pos] = true := hn
        refine br_need (by simp; omega) ⟨rfl, fun h => by simp at h, fun _ => ⟨_, .any (.any (.same (.any .nil))), ?_⟩⟩
        have h1 := hX.1 (by rw [hdrop, List.any_cons, hni, Bool.true_or])
        rw [hdrop, List.findIdx_cons, hni] at h1
        have ht : (l'.drop (pos : Int).toNat).take ((l'.length : Int).toNat - (pos : Int).toNat) = l'.drop pos := List.take_of_length_le (by simp)
        rw [ht]
        exact h1
      · have hni : notIn t l'[pos] = false := hn
        refine ⟨rfl, fun _ => ⟨by simp only; omega, ?_⟩, fun h => absurd rfl h⟩
        refine br_need (by simp [ha, hat, hlen]; omega) ?_
        have e1 : (l'.drop pos).any (notIn t) = (l'.drop (pos + 1)).any (notIn t) := by rw [hdrop, List.any_cons, hni, Bool.false_or]
        have e2 : pos + (l'.drop pos).findIdx (notIn t) = pos + 1 + (l'.drop (pos + 1)).findIdx (notIn t) := by
          rw [hdrop, List.findIdx_cons, hni]; simp; omega
        rw [e1, e2] at hX
        exact hX
    · simp only [decide_eq_false_iff_not] at h
      have hpe : pos = l'.length := by omega
      subst hpe
      refine ⟨rfl, fun h => by simp at h, fun _ => ⟨_, .any (.any (.any (.any .nil))), ?_⟩⟩
      exact hX.2 (by rw [List.drop_length]; rfl)
  · exact hF.elim

theorem c35_ok : CfgOk Tryz.prog c35 := symCfg_ok tx_base .nil (by
  intro c hc
  simp only [List.mem_cons, List.not_mem_nil, or_false] at hc
  rcases hc with rfl | rfl
  · exact l35i_ok
  · exact l35o_ok)

theorem dropWhile_any {t l : List UInt8} : (l.any (notIn t) = true → stripL t l = l.drop (l.findIdx (notIn t))) ∧ (l.any (notIn t) = false → stripL t l = []) := by
  unfold stripL
  induction l with
  | nil => exact ⟨fun h => by simp at h, fun _ => rfl⟩
  | cons b l ih =>
    rw [List.any_cons, List.findIdx_cons, List.dropWhile_cons]
    cases h : t.contains b with
    | true =>
      have hn : notIn t b = false := by simp only [notIn, h]; rfl
      rw [hn, Bool.false_or]
      exact ⟨fun ha => by simpa using ih.1 ha, fun ha => by simpa using ih.2 ha⟩
    | false =>
      have hn : notIn t b = true := by simp only [notIn, h]; rfl
      rw [hn]
      exact ⟨fun _ => rfl, fun ha => by simp at ha⟩

def cutLH : List V → St → Out V
  | [.str l, .str t], s => .br (ascii l && ascii t && decide (l.length ≤ 1000000)) (.ok (.str (stripL t l)) s) .err
  | _, _ => .err

theorem has35 : Has Tryz.prog 35 cutLH := by
  refine Has.shut c35_ok 10 ⟨_, Tryz.func35, rfl⟩ fun args s K Kp h => ?_
  unfold cutLH at h
  split at h
  · rename_i l t
    obtain ⟨hg, hX⟩ := br_err h
    refine ⟨rfl, ?_⟩
    refine Out.all_eq (y := .br (decide (l = l) && ascii l && ascii t && decide (0 ≤ l.length) && decide (l.length ≤ 1000000))
      (.br ((l.drop 0).any (notIn t)) (.ok (.str (l.drop (0 + (l.drop 0).findIdx (notIn t)))) ⟨[.sit l (0 + (l.drop 0).findIdx (notIn t) + 1), .sit t t.length], []⟩) (.ok (.str []) ⟨[.sit l l.length], []⟩)) .err) (by kernel_rfl) ?_
    simp only [Bool.and_eq_true, decide_eq_true_eq] at hg
    refine br_need (by simp [hg]) ?_
    rw [List.drop_zero, Nat.zero_add]
    obtain ⟨d1, d2⟩ := dropWhile_any (t := t) (l := l)
    exact ⟨fun h => by rw [d1 h] at hX; exact ⟨rfl, hX⟩, fun h => by rw [d2 h] at hX; exact ⟨rfl, hX⟩⟩
  · exact h.elim

/-! cutRight -/
theorem l34i_ok : l34i.Ok Tryz.prog c34 := by
  refine ⟨by kernel_rfl, by kernel_rfl, fun _ s => match s with | ⟨[.sit t q], _⟩ => t.length - q | _ => 0, fun k xs s K Kp hl hF => ?_⟩
  simp only [l34i, Bool.false_eq_true, if_false] at hF hl ⊢
  unfold inF34 at hF
  split at hF
  · rename_i a0 a1 a4 c a6 b t q lv
    obtain ⟨hg, hX⟩ := br_err hF
    simp only [Bool.and_eq_true, decide_eq_true_eq] at hg
    obtain ⟨ha, hq⟩ := hg
    refine Out.all_eq (y := .br (decide (q < t.length))
      (.br true (.ok (.norm, [a0, a1, a4, .int .i32 c, a6, .bool (bif b then true else (c == ((Utf8.decode ⟨t.toArray⟩ q).1 : Int))), .ptr 0 0], []) ⟨[.sit t (q + (Utf8.decode ⟨t.toArray⟩ q).2)], lv⟩)
        (.ok (.exit 2, [a0, a1, a4, .int .i32 c, a6, .bool b, .ptr 0 0], []) ⟨[.sit t (q + (Utf8.decode ⟨t.toArray⟩ q).2)], lv⟩))
      (.br false .err (.ok (.exit 2, [a0, a1, a4, .int .i32 c, a6, .bool b, .ptr 0 0], []) ⟨[.sit t q], lv⟩))) (by kernel_rfl) ?_
    refine ⟨fun h => br_yes rfl ?_, fun h => br_no rfl ?_⟩
    · simp only [decide_eq_true_eq] at h
      rw [dec_ascii ha h]
      refine ⟨rfl, fun _ => ⟨by simp only; omega, ?_⟩, fun h => absurd rfl h⟩
      refine br_need (by simp [ha]; omega) ?_
      have e : ((bif b then true else (c == (t[q].toNat : Int))) || hasR (t.drop (q + 1)) c) = (b || hasR (t.drop q) c) := by
        rw [hasR_drop h]; cases b <;> simp
      rw [e]; exact hX
    · simp only [decide_eq_false_iff_not] at h
      have hqe : q = t.length := by omega
      subst hqe
      refine ⟨rfl, fun h => by simp at h, fun _ => ⟨_, .same (.same (.same (.any (.same (.same (.any .nil)))))), ?_⟩⟩
      have e : (b || hasR (t.drop t.length) c) = b := by rw [List.drop_length]; simp [hasR]
      rw [e] at hX; exact hX
  · exact hF.elim

theorem wrap32_id {n : Int} (h1 : -2147483648 ≤ n) (h2 : n < 2147483648) : IntKind.i32.wrap n = n := by
  unfold IntKind.wrap
  simp only [IntKind.bits, IntKind.signed, Bool.true_and, decide_eq_true_eq, Nat.reduceSub, Int.reducePow, ge_iff_le]
  split <;> omega

theorem stripR_last {t : List UInt8} {l : List UInt8} {b : UInt8} : (notIn t b = true → stripR t (l ++ [b]) = l ++ [b]) ∧ (notIn t b = false → stripR t (l ++ [b]) = stripR t l) := by
  unfold stripR
  rw [List.reverse_append, List.reverse_singleton, List.singleton_append, List.dropWhile_cons]
  cases h : t.contains b with
  | true =>
    have hn : notIn t b = false := by simp only [notIn, h]; rfl
    rw [hn]
    exact ⟨fun h => by simp at h, fun _ => rfl⟩
  | false =>
    have hn : notIn t b = true := by simp only [notIn, h]; rfl
    rw [hn]
    exact ⟨fun _ => by simp, fun h => by simp at h⟩

theorem l34o_ok : l34o.Ok Tryz.prog c34 := by
  refine ⟨by kernel_rfl, by kernel_rfl, fun xs _ => match xs with | [.str l, _, _] => l.length | _ => 0, fun k xs s K Kp hl hF => ?_⟩
  simp only [l34o, if_true] at hF hl ⊢
  unfold outF34 at hF
  split at hF
  · rename_i k l t r lv
    obtain ⟨hg, hX⟩ := br_err hF
    clear hF
    simp only [Bool.and_eq_true, decide_eq_true_eq] at hg
    obtain ⟨⟨ha, hat⟩, hlen⟩ := hg
    refine Out.all_eq (y := .br (decide ((l.length : Int) > 0))
      (.br ((l.length : Int) == 0)
        (.br (ascii t && true)
          (.br (!(false || hasR t 65533)) (.ok (.ret, [.str l, .str t, .str l], []) ⟨[.sit t t.length], lv⟩)
            (.br (decide ((0 : Int) ≤ 0 ∧ 0 ≤ IntKind.i64.wrap ((l.length : Int) - 0) ∧ IntKind.i64.wrap ((l.length : Int) - 0) ≤ (l.length : Int)))
              (.br true (.ok (.norm, [.str ((l.drop (0 : Int).toNat).take ((IntKind.i64.wrap ((l.length : Int) - 0)).toNat - (0 : Int).toNat)), .str t, .str r], []) ⟨[], lv⟩) .err) .err)) .err)
        (.br (decide (0 ≤ IntKind.i64.wrap ((l.length : Int) - 1) ∧ IntKind.i64.wrap ((l.length : Int) - 1) < (l.length : Int)))
          (.br (decide (IntKind.i32.wrap ((l.getD (IntKind.i64.wrap ((l.length : Int) - 1)).toNat 0).toNat : Int) < 128))
            (.br (ascii t && true)
              (.br (!(false || hasR t (IntKind.i32.wrap ((l.getD (IntKind.i64.wrap ((l.length : Int) - 1)).toNat 0).toNat : Int)))) (.ok (.ret, [.str l, .str t, .str l], []) ⟨[.sit t t.length], lv⟩)
                (.br (decide ((0 : Int) ≤ 0 ∧ 0 ≤ IntKind.i64.wrap ((l.length : Int) - 1) ∧ IntKind.i64.wrap ((l.length : Int) - 1) ≤ (l.length : Int)))
                  (.br true (.ok (.norm, [.str ((l.drop (0 : Int).toNat).take ((IntKind.i64.wrap ((l.length : Int) - 1)).toNat - (0 : Int).toNat)), .str t, .str r], []) ⟨[], lv⟩) .err) .err)) .err) .err) .err))
      (.ok (.exit 0, [.str l, .str t, .str r], []) ⟨[], lv⟩)) (by kernel_rfl) ?_
    rcases List.eq_nil_or_concat l with rfl | ⟨init, b, rfl⟩
    · refine br_no (by simp) ⟨rfl, fun h => by simp at h, fun _ => ⟨_, .same (.any (.any .nil)), ?_⟩⟩
      exact hX.2 rfl
    · simp only [List.concat_eq_append] at ha hlen hX ⊢
      have hll : (init ++ [b]).length = init.length + 1 := by simp
      have hw : IntKind.i64.wrap (((init ++ [b]).length : Int) - 1) = init.length := by rw [wrap64_id (by omega) (by omega)]; omega
      have hge : (init ++ [b]).getD ((init.length : Int)).toNat 0 = b := by simp
      have hb128 : b.toNat < 128 := by
        have := List.all_eq_true.1 ha b (by simp)
        simpa using this
      have hai : ascii init = true := by
        refine List.all_eq_true.2 fun x hx => List.all_eq_true.1 ha x (by simp [hx])
      refine br_yes (by simp only [hll, decide_eq_true_eq]; omega) (br_no (by simp only [hll, beq_eq_false_iff_ne, ne_eq]; omega) ?_)
      rw [hw, hge, wrap32_id (by omega) (by omega), Bool.false_or, hasR_contains]
      refine br_need (by simp only [decide_eq_true_eq, hll]; omega) (br_need (by simp only [decide_eq_true_eq]; omega) (br_need (by rw [hat]; rfl) ⟨fun hn => ?_, fun hn => br_need (by simp only [decide_eq_true_eq, hll]; omega) (br_need rfl ?_)⟩))
      · have hni : notIn t b = true := hn
        refine ⟨rfl, fun h => by simp at h, fun _ => ⟨_, .any (.any (.same .nil)), ?_⟩⟩
        have h1 := hX.1 (by rw [List.any_append]; simp [hni])
        rw [stripR_last.1 hni] at h1
        exact h1
      · have hni : notIn t b = false := hn
        have htk : ((init ++ [b]).drop (0 : Int).toNat).take (((init.length : Int)).toNat - (0 : Int).toNat) = init := by simp
        rw [htk]
        refine ⟨rfl, fun _ => ⟨by simp only [hll]; omega, ?_⟩, fun h => absurd rfl h⟩
        refine br_need (by simp [hai, hat]; omega) ?_
        have e1 : (init ++ [b]).any (notIn t) = init.any (notIn t) := by rw [List.any_append]; simp [hni]
        rw [e1, stripR_last.2 hni] at hX
        exact hX
  · exact hF.elim

theorem l58_ok : l58.Ok Tryz.prog c34 :=
  ⟨by kernel_rfl, by kernel_rfl, fun _ _ => 0, fun k xs s K Kp hl hF => hF.elim⟩

theorem c34_ok : CfgOk Tryz.prog c34 := symCfg_ok tx_base .nil (by
  intro c hc
  simp only [List.mem_cons, List.not_mem_nil, or_false] at hc
  rcases hc with rfl | rfl | rfl
  · exact l34i_ok
  · exact l34o_ok
  · exact l58_ok)

def cutRH : List V → St → Out V
  | [.str l, .str t], s => .br (ascii l && ascii t && decide (l.length ≤ 1000000)) (.ok (.str (stripR t l)) s) .err
  | _, _ => .err

theorem stripR_none {t : List UInt8} : ∀ {l : List UInt8}, l.any (notIn t) = false → stripR t l = [] := by
  intro l h
  unfold stripR
  have : (l.reverse.dropWhile fun b => t.contains b) = [] := by
    have := (dropWhile_any (t := t) (l := l.reverse)).2 (by rw [List.any_reverse]; exact h)
    exact this
  rw [this]; rfl

theorem has34 : Has Tryz.prog 34 cutRH := by
  refine Has.shut c34_ok 10 ⟨_, Tryz.func34, rfl⟩ fun args s K Kp h => ?_
  unfold cutRH at h
  split at h
  · rename_i l t
    obtain ⟨hg, hX⟩ := br_err h
    refine ⟨rfl, ?_⟩
    refine Out.all_eq (y := .br (ascii l && ascii t && decide (l.length ≤ 1000000))
      (.br (l.any (notIn t)) (.ok (.str (stripR t l)) ⟨[.sit t t.length], []⟩) (.ok (.str []) ⟨[], []⟩)) .err) (by kernel_rfl) ?_
    refine br_need hg ⟨fun h => ⟨rfl, hX⟩, fun h => ?_⟩
    rw [stripR_none h] at hX
    exact ⟨rfl, hX⟩
  · exact h.elim
end Go.Ev
