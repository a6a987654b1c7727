/- The text seat: the reference's Copies, Reverse, Strip. -/
import Derived.Test.YtfojnphbocojfaaGreatDoorEvTx7
set_option linter.all false
set_option linter.unusedVariables false
set_option linter.unusedSimpArgs false
namespace Go.Ev
open Go Go.RowKit Go.Proofs Spec
variable [Glob]
attribute [local irreducible] evFn roundOut roundCut loopCode ctxOf Tryz.prog

/-! Copies -/
/-- How many copies are still made. -/
def cntN (l : List UInt8) (n i : Int) : Nat := bif l.isEmpty then 0 else (min n (1000 / (l.length : Int) + 1) - i).toNat
def F16 : Nat → List V → St → Out (Ex × List V)
  | _, [.str l, .int .i64 n, .ptr 0 0, .lst (.live j) xs, .int .i64 i], s =>
    .br (decide (0 ≤ i) && decide (i ≤ 2000) && decide (xs.length = i.toNat * l.length) && decide (l.length ≤ 1000) && decide (s.live[j]? = some (xs.length, 1)))
      (.ok (.exit 0, [.any, .any, .ptr 0 0, .lst (.live j) (xs ++ bytesV (Lib.repeatL l (cntN l n i))), .any]) { s with live := s.live.set j (xs.length + cntN l n i * l.length, 1) }) .err
  | _, [.str l, .int .i64 n, .ptr 0 0, .lst .exact xs, .int .i64 i], s =>
    .br (decide (i = 0) && xs.isEmpty && decide (l.length ≤ 1000))
      (.br (decide (cntN l n 0 = 0)) (.ok (.exit 0, [.any, .any, .ptr 0 0, .lst .exact [], .any]) s)
        (.ok (.exit 0, [.any, .any, .ptr 0 0, .lst (.live s.live.length) (bytesV (Lib.repeatL l (cntN l n 0))), .any]) { s with live := s.live ++ [(cntN l n 0 * l.length, 1)] })) .err
  | _, _, _ => .err
def l16 : LoopC := ⟨16, 5, 36, [0, 1, 4, 5, 6], F16, false⟩

def F17 : Nat → List V → St → Out (Ex × List V)
  | _, [.str l, .ptr 0 0, .lst (.live j) xs, .int .i64 i], s =>
    .br (decide (-1 ≤ i) && decide (i < l.length) && decide (l.length ≤ 100000) && decide ((xs.length : Int) + i ≤ 1000000) && decide (s.live[j]? = some (xs.length, 1)))
      (.ok (.exit 0, [.any, .ptr 0 0, .lst (.live j) (xs ++ bytesV (l.take (i + 1).toNat).reverse), .any]) { s with live := s.live.set j (xs.length + (i + 1).toNat, 1) }) .err
  | _, [.str l, .ptr 0 0, .lst .exact xs, .int .i64 i], s =>
    .br (decide (-1 ≤ i) && decide (i < l.length) && decide (l.length ≤ 100000) && xs.isEmpty)
      (.br (decide (i < 0)) (.ok (.exit 0, [.any, .ptr 0 0, .lst .exact [], .any]) s)
        (.ok (.exit 0, [.any, .ptr 0 0, .lst (.live s.live.length) (bytesV (l.take (i + 1).toNat).reverse), .any]) { s with live := s.live ++ [((i + 1).toNat, 1)] })) .err
  | _, _, _ => .err
def l17 : LoopC := ⟨17, 5, 24, [0, 2, 3, 4], F17, false⟩

def isP (p : Int) (c : UInt8) : Bool := ((c.toNat : Int) == p)
def leadN (p : Int) (l : List UInt8) : Nat := (l.takeWhile (isP p)).length
def F181 : Nat → List V → St → Out (Ex × List V)
  | _, [.str l, .int .i64 side, .int .u8 p, .ptr 0 0, .int .i64 a, .int .i64 b], s =>
    .br (decide (0 ≤ a) && decide (a ≤ l.length) && decide (b = l.length) && decide (l.length ≤ 1000000))
      (.ok (.exit 0, [.str l, .int .i64 side, .int .u8 p, .ptr 0 0, .int .i64 (a + (bif side == 2 then 0 else leadN p (l.drop a.toNat) : Nat)), .int .i64 b]) s) .err
  | _, _, _ => .err
def l181 : LoopC := ⟨18, 5, 70, [0, 1, 2, 6, 7, 8], F181, false⟩
def F182 : Nat → List V → St → Out (Ex × List V)
  | _, [.str l, .int .i64 side, .int .u8 p, .ptr 0 0, .int .i64 a, .int .i64 b], s =>
    .br (decide (0 ≤ a) && decide (a ≤ b) && decide (b ≤ l.length) && decide (l.length ≤ 1000000))
      (.ok (.exit 2, [.str l, .any, .any, .ptr 0 0, .int .i64 a, .int .i64 (b - (bif side == 1 then 0 else leadN p ((l.take b.toNat).drop a.toNat).reverse : Nat))]) s) .err
  | _, _, _ => .err
def l182 : LoopC := ⟨18, 7, 70, [0, 1, 2, 6, 7, 8], F182, false⟩
def c16 : Cfg := symCfg txCfg (fun _ => true) [(20, .val validC), (36, .val wholeC), (37, .val padC), (38, .full outH)] [l16, l17, l181, l182]

def C16 (l : List UInt8) (n i : Int) (m : Nat) : Bool := bif (bif decide (i < n) then decide ((l.length : Int) > 0) else false) then decide ((m : Int) ≤ 1000) else false

theorem C16_eq {l : List UInt8} {n i : Int} (h0 : 0 ≤ i) : C16 l n i (i.toNat * l.length) = decide (0 < cntN l n i) := by
  unfold C16 cntN
  rcases Nat.eq_zero_or_pos l.length with h | h
  · have : l = [] := List.eq_nil_of_length_eq_zero h
    subst this
    cases decide (i < n) <;> simp
  · have he : l.isEmpty = false := by cases l with | nil => simp at h | cons _ _ => rfl
    have hp : decide ((l.length : Int) > 0) = true := by simp; omega
    rw [he, hp]
    simp only [cond_false]
    have hdiv : ((i.toNat * l.length : Nat) : Int) ≤ 1000 ↔ i < 1000 / (l.length : Int) + 1 := by
      have h1 : i ≤ 1000 / (l.length : Int) ↔ i * (l.length : Int) ≤ 1000 := Int.le_ediv_iff_mul_le (by omega)
      have h2 : ((i.toNat * l.length : Nat) : Int) = i * (l.length : Int) := by
        rw [Int.natCast_mul, Int.toNat_of_nonneg h0]
      rw [h2]
      omega
    by_cases hin : i < n
    · simp only [hin, decide_true, cond_true]
      rw [decide_eq_decide, hdiv]
      omega
    · simp only [hin, decide_false, cond_false]
      symm
      rw [decide_eq_false_iff_not]
      omega

theorem bytesV_append (a b : List UInt8) : bytesV (a ++ b) = bytesV a ++ bytesV b := by simp [bytesV]

theorem l16_ok : l16.Ok Tryz.prog c16 := by
  refine ⟨by kernel_rfl, by kernel_rfl, fun xs _ => match xs with | [.str l, .int _ n, _, _, .int _ i] => cntN l n i | _ => 0, fun k xs s K Kp hl hF => ?_⟩
  simp only [l16, Bool.false_eq_true, if_false] at hF hl ⊢
  unfold F16 at hF
  split at hF
  · rename_i l n j xs i
    obtain ⟨hg, hX⟩ := br_err hF
    clear hF
    simp only [Bool.and_eq_true, decide_eq_true_eq] at hg
    obtain ⟨⟨⟨⟨h0, hi⟩, hxl⟩, hlen⟩, hlive⟩ := hg
    refine Out.all_eq (y := .br (C16 l n i xs.length) ((appOf (.lst (.live j) xs) l s).bind fun v s => .ok (.norm, [.str l, .int .i64 n, .ptr 0 0, v, .int .i64 (IntKind.i64.wrap (i + 1))], []) s)
      (.ok (.exit 0, [.str l, .int .i64 n, .ptr 0 0, .lst (.live j) xs, .int .i64 i], []) s)) (by kernel_rfl) ?_
    rw [hxl, C16_eq h0]
    refine ⟨fun h => ?_, fun h => ?_⟩
    · simp only [decide_eq_true_eq] at h
      have hjl : j < s.live.length := by
        rcases Nat.lt_or_ge j s.live.length with h' | h'
        · exact h'
        · rw [List.getElem?_eq_none h'] at hlive; simp at hlive
      have hmul : i.toNat * l.length ≤ 2000 * 1000 := Nat.mul_le_mul (by omega) hlen
      have hlp : l.isEmpty = false := by
        cases hb : l.isEmpty with
        | false => rfl
        | true => unfold cntN at h; rw [hb] at h; simp at h
      have hlpos : 0 < l.length := by cases l with | nil => simp at hlp | cons _ _ => simp
      have hi1 : i < 1001 := by
        unfold cntN at h
        rw [hlp] at h
        simp only [cond_false] at h
        have h3 : (1000 : Int) / (l.length : Int) ≤ 1000 := Int.ediv_le_self _ (by omega)
        omega
      rw [app_eq, bytesV_sized, roomB_u8 (by rw [bytesV_length]; omega)]
      refine br_no (by cases l with | nil => simp at hlp | cons _ _ => rfl) (br_need (by rw [hlive]; simp) ?_)
      rw [wrap64_id (n := i + 1) (by omega) (by omega)]
      have hc1 : cntN l n i = cntN l n (i + 1) + 1 := by
        unfold cntN at h ⊢
        rw [hlp] at h ⊢
        simp only [cond_false] at h ⊢
        omega
      refine ⟨rfl, fun _ => ⟨by simp only; omega, ?_⟩, fun h => absurd rfl h⟩
      simp only [F16]
      have hml : (i + 1).toNat * l.length = i.toNat * l.length + l.length := by
        have : (i + 1).toNat = i.toNat + 1 := by omega
        rw [this, Nat.add_mul, Nat.one_mul]
      refine br_need ?_ ?_
      · simp only [Bool.and_eq_true, decide_eq_true_eq, List.length_append, bytesV_length]
        refine ⟨⟨⟨⟨by omega, by omega⟩, by omega⟩, hlen⟩, ?_⟩
        rw [List.getElem?_set, if_pos rfl, if_pos hjl]
      · rw [hc1] at hX
        have e1 : Lib.repeatL l (cntN l n (i + 1) + 1) = l ++ Lib.repeatL l (cntN l n (i + 1)) := rfl
        rw [e1, bytesV_append] at hX
        rw [List.set_set, List.append_assoc]
        have e2 : (xs ++ bytesV l).length + cntN l n (i + 1) * l.length = xs.length + (cntN l n (i + 1) + 1) * l.length := by
          rw [List.length_append, bytesV_length, Nat.add_mul, Nat.one_mul]; omega
        rw [e2]
        exact hX
    · simp only [decide_eq_false_iff_not] at h
      have hc0 : cntN l n i = 0 := by omega
      rw [hc0] at hX
      simp only [Nat.zero_mul, Nat.add_zero] at hX
      rw [set_self hlive] at hX
      have e0 : bytesV (Lib.repeatL l 0) = [] := rfl
      rw [e0, List.append_nil] at hX
      exact ⟨rfl, fun h => by simp at h, fun _ => ⟨_, .any (.any (.same (.same (.any .nil)))), hX⟩⟩
  · rename_i l n xs i
    obtain ⟨hg, hX⟩ := br_err hF
    clear hF
    simp only [Bool.and_eq_true, decide_eq_true_eq, List.isEmpty_iff] at hg
    obtain ⟨⟨rfl, rfl⟩, hlen⟩ := hg
    refine Out.all_eq (y := .br (C16 l n 0 0) ((appOf (.lst .exact []) l s).bind fun v s => .ok (.norm, [.str l, .int .i64 n, .ptr 0 0, v, .int .i64 1], []) s)
      (.ok (.exit 0, [.str l, .int .i64 n, .ptr 0 0, .lst .exact [], .int .i64 0], []) s)) (by kernel_rfl) ?_
    · have e : C16 l n 0 0 = decide (0 < cntN l n 0) := by
        have h1 := C16_eq (l := l) (n := n) (Int.le_refl 0)
        have h2 : (0 : Int).toNat * l.length = 0 := by simp
        rw [h2] at h1
        exact h1
      rw [e]
      refine ⟨fun h => ?_, fun h => ?_⟩
      · simp only [decide_eq_true_eq] at h
        have hlp : l.isEmpty = false := by
          cases hb : l.isEmpty with
          | false => rfl
          | true => unfold cntN at h; rw [hb] at h; simp at h
        have hlpos : 0 < l.length := by cases l with | nil => simp at hlp | cons _ _ => simp
        have h1 := hX.2 (by simp; omega)
        rw [app_eq, bytesV_sized, roomB_u8 (by rw [bytesV_length]; simp; omega)]
        refine br_no (by cases l with | nil => simp at hlp | cons _ _ => rfl) (br_need rfl ?_)
        have hc1 : cntN l n 0 = cntN l n 1 + 1 := by
          unfold cntN at h ⊢
          rw [hlp] at h ⊢
          simp only [cond_false] at h ⊢
          omega
        refine ⟨rfl, fun _ => ⟨by simp only; omega, ?_⟩, fun h => absurd rfl h⟩
        simp only [F16, List.nil_append, List.length_nil, Nat.zero_add]
        refine br_need ?_ ?_
        · simp only [Bool.and_eq_true, decide_eq_true_eq, bytesV_length]
          refine ⟨⟨⟨⟨by omega, by omega⟩, by simp⟩, hlen⟩, ?_⟩
          simp
        · rw [hc1] at h1
          have e1 : Lib.repeatL l (cntN l n 1 + 1) = l ++ Lib.repeatL l (cntN l n 1) := rfl
          rw [e1, bytesV_append] at h1
          have e2 : (s.live ++ [((bytesV l).length, 1)]).set s.live.length ((bytesV l).length + cntN l n 1 * l.length, 1) = s.live ++ [((cntN l n 1 + 1) * l.length, 1)] := by
            rw [List.set_append_right _ _ (Nat.le_refl _), Nat.sub_self, bytesV_length, Nat.add_mul, Nat.one_mul]
            simp; omega
          rw [e2]
          exact h1
      · simp only [decide_eq_false_iff_not] at h
        have h1 := hX.1 (by simp; omega)
        exact ⟨rfl, fun h => by simp at h, fun _ => ⟨_, .any (.any (.same (.same (.any .nil)))), h1⟩⟩
  · exact hF.elim

/-! Reverse -/
theorem take_succ_rev {l : List UInt8} {i : Int} (h0 : 0 ≤ i) (h : i < l.length) : bytesV (l.take (i + 1).toNat).reverse = .int .u8 ((l.getD i.toNat 0).toNat) :: bytesV (l.take (i - 1 + 1).toNat).reverse := by
  have hlt : i.toNat < l.length := by omega
  have e1 : (i + 1).toNat = i.toNat + 1 := by omega
  have e2 : (i - 1 + 1).toNat = i.toNat := by omega
  have hg : l.getD i.toNat 0 = l[i.toNat] := by simp [List.getD_eq_getElem?_getD, hlt]
  rw [e1, e2, hg, List.take_succ_eq_append_getElem hlt, List.reverse_append]
  rfl

theorem l17_ok : l17.Ok Tryz.prog c16 := by
  refine ⟨by kernel_rfl, by kernel_rfl, fun xs _ => match xs with | [_, _, _, .int _ i] => (i + 1).toNat | _ => 0, fun k xs s K Kp hl hF => ?_⟩
  simp only [l17, Bool.false_eq_true, if_false] at hF hl ⊢
  unfold F17 at hF
  split at hF
  · rename_i l j xs i
    obtain ⟨hg, hX⟩ := br_err hF
    clear hF
    simp only [Bool.and_eq_true, decide_eq_true_eq] at hg
    obtain ⟨⟨⟨⟨h0, hi⟩, hlen⟩, hxl⟩, hlive⟩ := hg
    refine Out.all_eq (y := .br (decide (i ≥ 0)) (.br (decide (0 ≤ i ∧ i < (l.length : Int)))
      (.br false (.br (roomB Tryz.prog 5 (xs.length + 1)) (.ok (.norm, [.str l, .ptr 0 0, .lst (.live j) xs, .int .i64 (IntKind.i64.wrap (i - 1))], []) s) .err)
        (.br (roomB Tryz.prog 5 (xs.length + 1) && true && decide (s.live[j]? = some (xs.length, 1)))
          (.ok (.norm, [.str l, .ptr 0 0, .lst (.live j) (xs ++ [.int .u8 (l.getD i.toNat 0).toNat]), .int .i64 (IntKind.i64.wrap (i - 1))], []) { s with live := s.live.set j (xs.length + 1, 1) }) .err)) .err)
      (.ok (.exit 0, [.str l, .ptr 0 0, .lst (.live j) xs, .int .i64 i], []) s)) (by kernel_rfl) ?_
    have hjl : j < s.live.length := by
      rcases Nat.lt_or_ge j s.live.length with h' | h'
      · exact h'
      · rw [List.getElem?_eq_none h'] at hlive; simp at hlive
    refine ⟨fun h => ?_, fun h => ?_⟩
    · simp only [decide_eq_true_eq] at h
      refine br_need (by simp; omega) (br_no rfl (br_need (by rw [roomB_u8 (by omega), hlive]; simp) ?_))
      rw [wrap64_id (n := i - 1) (by omega) (by omega)]
      refine ⟨rfl, fun _ => ⟨by simp only; omega, ?_⟩, fun h => absurd rfl h⟩
      simp only [F17]
      have hb : (bytesV (l.take (i + 1).toNat).reverse) = .int .u8 ((l.getD i.toNat 0).toNat) :: bytesV (l.take (i - 1 + 1).toNat).reverse := take_succ_rev (by omega) hi
      have hxl' : (xs ++ [V.int .u8 ((l.getD i.toNat 0).toNat)]).length = xs.length + 1 := by simp
      rw [hxl']
      refine br_need ?_ ?_
      · simp only [Bool.and_eq_true, decide_eq_true_eq]
        refine ⟨⟨⟨⟨by omega, by omega⟩, hlen⟩, by omega⟩, ?_⟩
        rw [List.getElem?_set, if_pos rfl, if_pos hjl]
      · rw [hb] at hX
        rw [List.set_set, List.append_assoc]
        have e2 : xs.length + 1 + (i - 1 + 1).toNat = xs.length + (i + 1).toNat := by omega
        rw [e2]
        exact hX
    · simp only [decide_eq_false_iff_not] at h
      have e : (i + 1).toNat = 0 := by omega
      rw [e] at hX
      have e0 : bytesV (l.take 0).reverse = [] := rfl
      rw [e0, List.append_nil, Nat.add_zero, set_self hlive] at hX
      exact ⟨rfl, fun h => by simp at h, fun _ => ⟨_, .any (.same (.same (.any .nil))), hX⟩⟩
  · rename_i l xs i
    obtain ⟨hg, hX⟩ := br_err hF
    clear hF
    simp only [Bool.and_eq_true, decide_eq_true_eq, List.isEmpty_iff] at hg
    obtain ⟨⟨⟨h0, hi⟩, hlen⟩, rfl⟩ := hg
    refine Out.all_eq (y := .br (decide (i ≥ 0)) (.br (decide (0 ≤ i ∧ i < (l.length : Int)))
      (.br false (.br (roomB Tryz.prog 5 (0 + 1)) (.ok (.norm, [.str l, .ptr 0 0, .lst .exact [], .int .i64 (IntKind.i64.wrap (i - 1))], []) s) .err)
        (.br (roomB Tryz.prog 5 (0 + 1) && true && true)
          (.ok (.norm, [.str l, .ptr 0 0, .lst (.live s.live.length) [.int .u8 (l.getD i.toNat 0).toNat], .int .i64 (IntKind.i64.wrap (i - 1))], []) { s with live := s.live ++ [(1, 1)] }) .err)) .err)
      (.ok (.exit 0, [.str l, .ptr 0 0, .lst .exact [], .int .i64 i], []) s)) (by kernel_rfl) ?_
    refine ⟨fun h => ?_, fun h => ?_⟩
    · simp only [decide_eq_true_eq] at h
      have h1 := hX.2 (by simp; omega)
      refine br_need (by simp; omega) (br_no rfl (br_need (by rw [roomB_u8 (by omega)]; rfl) ?_))
      rw [wrap64_id (n := i - 1) (by omega) (by omega)]
      refine ⟨rfl, fun _ => ⟨by simp only; omega, ?_⟩, fun h => absurd rfl h⟩
      simp only [F17]
      refine br_need ?_ ?_
      · simp only [Bool.and_eq_true, decide_eq_true_eq, List.length_singleton]
        refine ⟨⟨⟨⟨by omega, by omega⟩, hlen⟩, by omega⟩, ?_⟩
        simp
      · rw [take_succ_rev (by omega) hi] at h1
        have e2 : (s.live ++ [(1, 1)]).set s.live.length ([V.int .u8 ((l.getD i.toNat 0).toNat)].length + (i - 1 + 1).toNat, 1) = s.live ++ [((i + 1).toNat, 1)] := by
          rw [List.set_append_right _ _ (Nat.le_refl _), Nat.sub_self]
          simp; omega
        rw [e2]
        exact h1
    · simp only [decide_eq_false_iff_not] at h
      have h1 := hX.1 (by simp; omega)
      exact ⟨rfl, fun h => by simp at h, fun _ => ⟨_, .any (.same (.same (.any .nil))), h1⟩⟩
  · exact hF.elim

/-! Strip -/
theorem leadN_cons {p : Int} {c : UInt8} {l : List UInt8} : leadN p (c :: l) = bif isP p c then leadN p l + 1 else 0 := by
  unfold leadN
  rw [List.takeWhile_cons]
  cases isP p c <;> rfl

theorem l181_ok : l181.Ok Tryz.prog c16 := by
  refine ⟨by kernel_rfl, by kernel_rfl, fun xs _ => match xs with | [_, _, _, _, .int _ a, .int _ b] => (b - a).toNat | _ => 0, fun k xs s K Kp hl hF => ?_⟩
  simp only [l181, Bool.false_eq_true, if_false] at hF hl ⊢
  unfold F181 at hF
  split at hF
  · rename_i l side p a b
    obtain ⟨hg, hX⟩ := br_err hF
    clear hF
    simp only [Bool.and_eq_true, decide_eq_true_eq] at hg
    obtain ⟨⟨⟨h0, ha⟩, rfl⟩, hlen⟩ := hg
    refine Out.all_eq (y := .br (bif side != 2 then decide (a < (l.length : Int)) else false)
      (.br (decide (0 ≤ a ∧ a < (l.length : Int))) (.br (isP p (l.getD a.toNat 0))
        (.ok (.norm, [.str l, .int .i64 side, .int .u8 p, .ptr 0 0, .int .i64 (IntKind.i64.wrap (a + 1)), .int .i64 l.length], []) s)
        (.ok (.exit 0, [.str l, .int .i64 side, .int .u8 p, .ptr 0 0, .int .i64 a, .int .i64 l.length], []) s)) .err)
      (.br false (.ok (.norm, [.str l, .int .i64 side, .int .u8 p, .ptr 0 0, .int .i64 (IntKind.i64.wrap (a + 1)), .int .i64 l.length], []) s)
        (.ok (.exit 0, [.str l, .int .i64 side, .int .u8 p, .ptr 0 0, .int .i64 a, .int .i64 l.length], []) s))) (by kernel_rfl) ?_
    cases hside : side == 2 with
    | true =>
      have hne : (side != 2) = false := by simp only [bne, hside]; rfl
      rw [hne]
      rw [hside] at hX
      simp only [cond_true] at hX
      have e : a + ((0 : Nat) : Int) = a := by omega
      rw [e] at hX
      exact br_no rfl (br_no rfl ⟨rfl, fun h => by simp at h, fun _ => ⟨_, .refl _, hX⟩⟩)
    | false =>
      have hne : (side != 2) = true := by simp only [bne, hside]; rfl
      rw [hne]
      rw [hside] at hX
      simp only [cond_true, cond_false] at hX ⊢
      refine ⟨fun h => ?_, fun h => br_no rfl ?_⟩
      · simp only [decide_eq_true_eq] at h
        have hlt : a.toNat < l.length := by omega
        have hget : l.getD a.toNat 0 = l[a.toNat] := by simp [List.getD_eq_getElem?_getD, hlt]
        have hdrop := List.drop_eq_getElem_cons hlt
        rw [hget]
        rw [hdrop, leadN_cons] at hX
        refine br_need (by simp; omega) ⟨fun hp => ?_, fun hp => ?_⟩
        · rw [hp] at hX
          rw [wrap64_id (n := a + 1) (by omega) (by omega)]
          refine ⟨rfl, fun _ => ⟨by simp only; omega, ?_⟩, fun h => absurd rfl h⟩
          simp only [F181]
          refine br_need ?_ ?_
          · simp only [Bool.and_eq_true, decide_eq_true_eq]
            exact ⟨⟨⟨by omega, by omega⟩, trivial⟩, hlen⟩
          · rw [hside]
            simp only [cond_true, cond_false] at hX ⊢
            have e1 : (a + 1).toNat = a.toNat + 1 := by omega
            have e2 : a + 1 + ((leadN p (l.drop (a + 1).toNat) : Nat) : Int) = a + ((leadN p (l.drop (a.toNat + 1)) + 1 : Nat) : Int) := by rw [e1]; omega
            rw [e2]; exact hX
        · rw [hp] at hX
          simp only [cond_false] at hX
          have e : a + ((0 : Nat) : Int) = a := by omega
          rw [e] at hX
          exact ⟨rfl, fun h => by simp at h, fun _ => ⟨_, .refl _, hX⟩⟩
      · simp only [decide_eq_false_iff_not] at h
        have e : l.drop a.toNat = [] := List.drop_eq_nil_of_le (by omega)
        rw [e] at hX
        have e2 : a + ((leadN p [] : Nat) : Int) = a := by simp [leadN]
        rw [e2] at hX
        exact ⟨rfl, fun h => by simp at h, fun _ => ⟨_, .refl _, hX⟩⟩
  · exact hF.elim

theorem rev_last {l : List UInt8} {a b : Int} (h0 : 0 ≤ a) (hab : a < b) (hb : b ≤ l.length) : ((l.take b.toNat).drop a.toNat).reverse = l.getD (b - 1).toNat 0 :: ((l.take (b - 1).toNat).drop a.toNat).reverse := by
  have hlt : (b - 1).toNat < l.length := by omega
  have e1 : b.toNat = (b - 1).toNat + 1 := by omega
  have hg : l.getD (b - 1).toNat 0 = l[(b - 1).toNat] := by rw [List.getD_eq_getElem?_getD, List.getElem?_eq_getElem hlt]; rfl
  rw [e1, List.take_succ_eq_append_getElem hlt, hg, List.drop_append_of_le_length (by simp; omega), List.reverse_append]
  rfl

theorem l182_ok : l182.Ok Tryz.prog c16 := by
  refine ⟨by kernel_rfl, by kernel_rfl, fun xs _ => match xs with | [_, _, _, _, .int _ a, .int _ b] => (b - a).toNat | _ => 0, fun k xs s K Kp hl hF => ?_⟩
  simp only [l182, Bool.false_eq_true, if_false] at hF hl ⊢
  unfold F182 at hF
  split at hF
  · rename_i l side p a b
    obtain ⟨hg, hX⟩ := br_err hF
    clear hF
    simp only [Bool.and_eq_true, decide_eq_true_eq] at hg
    obtain ⟨⟨⟨h0, hab⟩, hb⟩, hlen⟩ := hg
    refine Out.all_eq (y := .br (bif side != 1 then decide (a < b) else false)
      (.br (decide (0 ≤ IntKind.i64.wrap (b - 1) ∧ IntKind.i64.wrap (b - 1) < (l.length : Int))) (.br (isP p (l.getD (IntKind.i64.wrap (b - 1)).toNat 0))
        (.ok (.norm, [.str l, .int .i64 side, .int .u8 p, .ptr 0 0, .int .i64 a, .int .i64 (IntKind.i64.wrap (b - 1))], []) s)
        (.ok (.exit 2, [.str l, .int .i64 side, .int .u8 p, .ptr 0 0, .int .i64 a, .int .i64 b], []) s)) .err)
      (.br false (.ok (.norm, [.str l, .int .i64 side, .int .u8 p, .ptr 0 0, .int .i64 a, .int .i64 (IntKind.i64.wrap (b - 1))], []) s)
        (.ok (.exit 2, [.str l, .int .i64 side, .int .u8 p, .ptr 0 0, .int .i64 a, .int .i64 b], []) s))) (by kernel_rfl) ?_
    cases hside : side == 1 with
    | true =>
      have hne : (side != 1) = false := by simp only [bne, hside]; rfl
      rw [hne]
      rw [hside] at hX
      simp only [cond_true] at hX
      have e : b - ((0 : Nat) : Int) = b := by omega
      rw [e] at hX
      exact br_no rfl (br_no rfl ⟨rfl, fun h => by simp at h, fun _ => ⟨_, .same (.any (.any (.same (.same (.same .nil))))), hX⟩⟩)
    | false =>
      have hne : (side != 1) = true := by simp only [bne, hside]; rfl
      rw [hne]
      rw [hside] at hX
      simp only [cond_true, cond_false] at hX ⊢
      rw [wrap64_id (n := b - 1) (by omega) (by omega)]
      refine ⟨fun h => ?_, fun h => br_no rfl ?_⟩
      · simp only [decide_eq_true_eq] at h
        rw [rev_last h0 h hb, leadN_cons] at hX
        refine br_need (by simp; omega) ⟨fun hp => ?_, fun hp => ?_⟩
        · rw [hp] at hX
          refine ⟨rfl, fun _ => ⟨by simp only; omega, ?_⟩, fun h => absurd rfl h⟩
          simp only [F182]
          refine br_need ?_ ?_
          · simp only [Bool.and_eq_true, decide_eq_true_eq]
            exact ⟨⟨⟨by omega, by omega⟩, by omega⟩, hlen⟩
          · rw [hside]
            simp only [cond_true, cond_false] at hX ⊢
            have e2 : b - 1 - ((leadN p ((l.take (b - 1).toNat).drop a.toNat).reverse : Nat) : Int) = b - ((leadN p ((l.take (b - 1).toNat).drop a.toNat).reverse + 1 : Nat) : Int) := by omega
            rw [e2]; exact hX
        · rw [hp] at hX
          simp only [cond_false] at hX
          have e : b - ((0 : Nat) : Int) = b := by omega
          rw [e] at hX
          exact ⟨rfl, fun h => by simp at h, fun _ => ⟨_, .same (.any (.any (.same (.same (.same .nil))))), hX⟩⟩
      · simp only [decide_eq_false_iff_not] at h
        have e : ((l.take b.toNat).drop a.toNat).reverse = [] := by rw [List.drop_eq_nil_of_le (by simp; omega)]; rfl
        rw [e] at hX
        have e2 : b - ((leadN p [] : Nat) : Int) = b := by simp [leadN]
        rw [e2] at hX
        exact ⟨rfl, fun h => by simp at h, fun _ => ⟨_, .same (.any (.any (.same (.same (.same .nil))))), hX⟩⟩
  · exact hF.elim

theorem c16_ok : CfgOk Tryz.prog c16 := symCfg_ok tx_base (.cons has20 (.cons has36 (.cons has37 (.cons has38 .nil)))) (by
  intro c hc
  simp only [List.mem_cons, List.not_mem_nil, or_false] at hc
  rcases hc with rfl | rfl | rfl | rfl
  · exact l16_ok
  · exact l17_ok
  · exact l181_ok
  · exact l182_ok)

/-! the three functions -/
def bad2 (l : List UInt8) (n : Int) : Bool := bif !valid l then true else !(decide (n ≥ 0) || (false && (n == -1)))
theorem bad2_eq (l : List UInt8) (n : Int) : bad2 l n = !(valid l && decide (n ≥ 0)) := by
  unfold bad2
  generalize decide (n ≥ 0) = c
  cases valid l <;> cases c <;> rfl
def copiesAH : List V → St → Out V
  | [.str l, .int .i64 n], s => .br (decide (n ≤ 9223372036854775807) && decide (l.length ≤ 100000)) (.ok (resA (valid l && decide (n ≥ 0)) (Spec.many l n)) s) .err
  | _, _ => .err

theorem cnt_many {l : List UInt8} {n : Int} (hl : l.length ≤ 1000) (hn : 0 ≤ n) : Lib.repeatL l (cntN l n 0) = Spec.many l n := by
  unfold Spec.many cntN
  rcases Nat.eq_zero_or_pos l.length with h | h
  · have : l = [] := List.eq_nil_of_length_eq_zero h
    subst this
    have hr : ∀ k, Lib.repeatL [] k = [] := by intro k; induction k with | zero => rfl | succ k ih => simp [Lib.repeatL, ih]
    rw [hr, hr]
  · have hlp : l.isEmpty = false := by cases l with | nil => simp at h | cons _ _ => rfl
    rw [hlp, manyN_bounds (by omega) h hn]
    simp only [cond_false, Int.sub_zero]

theorem has16 : Has Tryz.prog 16 copiesAH := by
  refine Has.shut c16_ok 10 ⟨_, Tryz.func16, rfl⟩ fun args s K Kp h => ?_
  unfold copiesAH at h
  split at h
  · rename_i l n
    obtain ⟨hc, h⟩ := br_err h
    simp only [Bool.and_eq_true, decide_eq_true_eq] at hc
    refine ⟨rfl, ?_⟩
    refine Out.all_eq (y := .br (bad2 l n) (.ok (.agg [.str [], .int .i64 1]) ⟨[.row 31 [.str [], .int .i64 1]], []⟩)
      (.br (decide ((0 : Int) = 0) && ([] : List V).isEmpty && decide (l.length ≤ 1000))
        (.br (decide (cntN l n 0 = 0)) (outK (.lst .exact []) s31) (outK (.lst (.live 0) (bytesV (Lib.repeatL l (cntN l n 0)))) ⟨s31.heap, [(cntN l n 0 * l.length, 1)]⟩)) .err)) (by kernel_rfl) ?_
    refine headA_all (bad2_eq l n) h fun hok hK => ?_
    simp only [Bool.and_eq_true, decide_eq_true_eq] at hok
    have hv := (ascii_of_valid hok.1).2
    refine br_need (by simp; omega) ⟨fun h0 => ?_, fun _ => out_all (outG_bytes _) ?_ hK⟩
    · simp only [decide_eq_true_eq] at h0
      have e := cnt_many hv hok.2
      rw [h0] at e
      refine out_all rfl ?_ hK
      left
      rw [← e]; rfl
    · rw [bytesV_back, cnt_many hv hok.2]; exact .inl rfl
  · exact h.elim

def revAC : List V → Option V
  | [.str l] => some (.agg [.str (bif valid l then l.reverse else []), .int .i64 (bif valid l then 0 else 1)])
  | _ => none

theorem made_valid {r : List UInt8} (h : valid r = true) : madeStr r = r ∧ madeErr r = 0 := by
  have := (ascii_of_valid h).2
  have h2 : ¬ r.length > 1000 := by omega
  unfold madeStr madeErr
  simp only [h, h2, decide_false, cond_true, cond_false, and_self]

theorem valid_reverse {l : List UInt8} (h : valid l = true) : valid l.reverse = true := by
  unfold valid at *
  simp only [Bool.and_eq_true, decide_eq_true_eq, List.length_reverse, List.all_reverse] at *
  exact h

theorem has17 : Has Tryz.prog 17 (Ext.val revAC).out := by
  refine Has.val c16_ok 10 ⟨_, Tryz.func17, rfl⟩ fun args v h => ?_
  unfold revAC at h
  split at h
  · rename_i l
    simp only [Option.some.injEq] at h
    subst h
    refine ⟨rfl, ?_⟩
    refine Out.all_eq (y := .br (!valid l) (.ok (.agg [.str [], .int .i64 1]) ⟨[.row 31 [.str [], .int .i64 1]], []⟩)
      (.br (decide (-1 ≤ IntKind.i64.wrap ((l.length : Int) - 1)) && decide (IntKind.i64.wrap ((l.length : Int) - 1) < l.length) && decide (l.length ≤ 100000) && ([] : List V).isEmpty)
        (.br (decide (IntKind.i64.wrap ((l.length : Int) - 1) < 0)) (outK (.lst .exact []) s31)
          (outK (.lst (.live 0) (bytesV (l.take (IntKind.i64.wrap ((l.length : Int) - 1) + 1).toNat).reverse)) ⟨s31.heap, [((IntKind.i64.wrap ((l.length : Int) - 1) + 1).toNat, 1)]⟩)) .err)) (by kernel_rfl) ?_
    cases hv : valid l with
    | false => exact br_yes rfl ⟨rfl, rfl⟩
    | true =>
      have hlen := (ascii_of_valid hv).2
      rw [wrap64_id (by omega) (by omega)]
      obtain ⟨m1, m2⟩ := made_valid (valid_reverse hv)
      refine br_no rfl (br_need (by simp; omega) ⟨fun h0 => ?_, fun _ => ?_⟩)
      · simp only [decide_eq_true_eq] at h0
        have : l = [] := List.eq_nil_of_length_eq_zero (by omega)
        subst this
        exact br_need rfl ⟨rfl, rfl⟩
      · have e : ((l.length : Int) - 1 + 1).toNat = l.length := by omega
        rw [e, List.take_length]
        simp only [outK]
        refine br_need (outG_bytes _) ⟨?_, rfl⟩
        unfold outV
        rw [bytesV_back, m1, m2]
        rfl
  · simp at h

def stripAC : List V → Option V
  | [.str l, .int .i64 side, .int .u8 p] => some (.agg [.str (bif stripOk l side p then Spec.strip l side (byteOf (.int .u8 p)) else []), .int .i64 (bif stripOk l side p then 0 else 1)])
  | _ => none

theorem isP_eq {p : Int} (hp : goodI p = true) (c : UInt8) : [byteOf (.int .u8 p)].contains c = isP p c := by
  have := byteOf_good hp
  unfold isP
  by_cases h : c = byteOf (.int .u8 p)
  · subst h; rw [this]; simp
  · have h1 : ¬ ((c.toNat : Int) = p) := by
      intro e
      exact h (UInt8.toNat_inj.1 (by omega))
    rw [beq_eq_false_iff_ne.2 h1]
    simp [h]

theorem dropWhile_take (q : UInt8 → Bool) (l : List UInt8) : l.dropWhile q = l.drop (l.takeWhile q).length := by
  induction l with
  | nil => rfl
  | cons x l ih =>
    rw [List.dropWhile_cons, List.takeWhile_cons]
    cases q x
    · rfl
    · simpa using ih

theorem stripL_eq {p : Int} (hp : goodI p = true) (l : List UInt8) : stripL [byteOf (.int .u8 p)] l = l.drop (leadN p l) := by
  unfold stripL leadN
  have : (fun b => [byteOf (.int .u8 p)].contains b) = isP p := by funext c; exact isP_eq hp c
  rw [this, dropWhile_take]

theorem stripR_eq {p : Int} (hp : goodI p = true) (l : List UInt8) : stripR [byteOf (.int .u8 p)] l = l.take (l.length - leadN p l.reverse) := by
  unfold stripR leadN
  have : (fun b => [byteOf (.int .u8 p)].contains b) = isP p := by funext c; exact isP_eq hp c
  rw [this, dropWhile_take, List.reverse_drop]
  simp

theorem leadN_le (p : Int) (l : List UInt8) : leadN p l ≤ l.length := (List.takeWhile_sublist _).length_le

/-- Where the reference cuts. -/
def cutA (l : List UInt8) (side p : Int) : Int := 0 + (bif side == 2 then 0 else leadN p (l.drop (0 : Int).toNat) : Nat)
def cutB (l : List UInt8) (side p : Int) : Int := (l.length : Int) - (bif side == 1 then 0 else leadN p ((l.take ((l.length : Int)).toNat).drop (cutA l side p).toNat).reverse : Nat)
def badStrip (l : List UInt8) (side p : Int) : Bool := bif (bif !valid l then true else !goodI p) then true else (bif (bif side != 0 then side != 1 else false) then side != 2 else false)

theorem badStrip_eq (l : List UInt8) (side p : Int) : badStrip l side p = !(stripOk l side p) := by
  unfold badStrip stripOk
  simp only [bne]
  cases valid l <;> cases goodI p <;> cases side == 0 <;> cases side == 1 <;> cases side == 2 <;> rfl

theorem has18 : Has Tryz.prog 18 (Ext.val stripAC).out := by
  refine Has.val c16_ok 10 ⟨_, Tryz.func18, rfl⟩ fun args v h => ?_
  unfold stripAC at h
  split at h
  · rename_i l side p
    simp only [Option.some.injEq] at h
    subst h
    refine ⟨rfl, ?_⟩
    refine Out.all_eq (y := .br (badStrip l side p) (.ok (.agg [.str [], .int .i64 1]) ⟨[.row 31 [.str [], .int .i64 1]], []⟩)
      (.br (decide ((0 : Int) ≤ 0) && decide ((0 : Int) ≤ l.length) && decide ((l.length : Int) = l.length) && decide (l.length ≤ 1000000))
        (.br (decide (0 ≤ cutA l side p) && decide (cutA l side p ≤ (l.length : Int)) && decide ((l.length : Int) ≤ l.length) && decide (l.length ≤ 1000000))
          (.br (decide (0 ≤ cutA l side p ∧ cutA l side p ≤ cutB l side p ∧ cutB l side p ≤ (l.length : Int)))
            (.ok (.agg [.str ((l.drop (cutA l side p).toNat).take ((cutB l side p).toNat - (cutA l side p).toNat)), .int .i64 0])
              ⟨[.row 31 [.str ((l.drop (cutA l side p).toNat).take ((cutB l side p).toNat - (cutA l side p).toNat)), .int .i64 0]], []⟩) .err) .err) .err)) (by kernel_rfl) ?_
    rw [badStrip_eq]
    cases hok : stripOk l side p with
    | false => exact br_yes rfl ⟨rfl, rfl⟩
    | true =>
      unfold stripOk at hok
      simp only [Bool.and_eq_true] at hok
      obtain ⟨⟨hv, hp⟩, hs⟩ := hok
      have hlen := (ascii_of_valid hv).2
      have hA : cutA l side p = ((bif side == 2 then 0 else leadN p l : Nat) : Int) := by
        unfold cutA
        have : (0 : Int).toNat = 0 := rfl
        rw [this, List.drop_zero]; omega
      have hAl : (bif side == 2 then 0 else leadN p l : Nat) ≤ l.length := by
        cases side == 2
        · exact leadN_le _ _
        · exact Nat.zero_le _
      generalize hk : (bif side == 2 then 0 else leadN p l : Nat) = kA at hA hAl
      have hB : cutB l side p = ((l.length - (bif side == 1 then 0 else leadN p (l.drop kA).reverse : Nat) : Nat) : Int) ∧ (bif side == 1 then 0 else leadN p (l.drop kA).reverse : Nat) ≤ l.length - kA := by
        unfold cutB
        rw [hA]
        have e1 : ((l.length : Int)).toNat = l.length := by omega
        have e2 : ((kA : Int)).toNat = kA := by omega
        rw [e1, e2, List.take_length]
        have hle : (bif side == 1 then 0 else leadN p (l.drop kA).reverse : Nat) ≤ l.length - kA := by
          cases side == 1
          · have := leadN_le p (l.drop kA).reverse
            simpa using this
          · exact Nat.zero_le _
        exact ⟨by omega, hle⟩
      obtain ⟨hB, hBl⟩ := hB
      generalize hkb : (bif side == 1 then 0 else leadN p (l.drop kA).reverse : Nat) = kB at hB hBl
      refine br_no rfl (br_need (by simp; omega) (br_need (by rw [hA]; simp; omega) (br_need (by rw [hA, hB]; simp only [decide_eq_true_eq]; omega) ⟨?_, rfl⟩)))
      rw [hA, hB]
      have e1 : ((kA : Int)).toNat = kA := by omega
      have e2 : (((l.length - kB : Nat) : Int)).toNat = l.length - kB := by omega
      rw [e1, e2]
      have key : (l.drop kA).take (l.length - kB - kA) = Spec.strip l side (byteOf (.int .u8 p)) := by
        unfold Spec.strip
        cases h0 : side == 0 with
        | true =>
          have : side = 0 := by simpa using h0
          subst this
          simp only [cond_true]
          have hkA : kA = leadN p l := by rw [← hk]; rfl
          have hkB : kB = leadN p (l.drop kA).reverse := by rw [← hkb]; rfl
          rw [stripL_eq hp, ← hkA, stripR_eq hp, ← hkB, List.length_drop]
          congr 1
          omega
        | false =>
          cases h1 : side == 1 with
          | true =>
            have : side = 1 := by simpa using h1
            subst this
            simp only [cond_true, cond_false]
            have hkA : kA = leadN p l := by rw [← hk]; rfl
            have hkB : kB = 0 := by rw [← hkb]; rfl
            rw [stripL_eq hp, ← hkA, hkB]
            exact List.take_of_length_le (by simp)
          | false =>
            have h2 : (side == 2) = true := by
              rw [h0, h1] at hs
              simpa using hs
            have : side = 2 := by simpa using h2
            subst this
            simp only [cond_true, cond_false]
            have hkA : kA = 0 := by rw [← hk]; rfl
            have hkB : kB = leadN p (l.drop kA).reverse := by rw [← hkb]; rfl
            rw [hkA, List.drop_zero] at hkB
            rw [stripR_eq hp, ← hkB, hkA, List.drop_zero, Nat.sub_zero]
            rfl
      rw [key]
      rfl
  · simp at h
end Go.Ev
