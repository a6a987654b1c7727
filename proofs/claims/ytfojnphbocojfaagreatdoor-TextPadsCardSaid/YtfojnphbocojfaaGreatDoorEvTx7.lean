/- The text seat: the reference's side, what is made with append. -/
import Derived.Test.YtfojnphbocojfaaGreatDoorEvTx6
set_option linter.all false
set_option linter.unusedVariables false
set_option linter.unusedSimpArgs false
namespace Go.Ev
open Go Go.RowKit Go.Proofs Spec
variable [Glob]
attribute [local irreducible] evFn roundOut roundCut loopCode ctxOf Tryz.prog

/-- Bytes that are appended. -/
def repV (n : Nat) (p : Int) : List V := List.replicate n (.int .u8 p)
def F40 : Nat → List V → St → Out (Ex × List V)
  | _, [.lst (.live j) xs, .int .i64 n, .int .u8 p, .int .i64 i], s =>
    .br (decide (0 ≤ i) && decide (n ≤ 1000000000) && decide (xs.length + (n - i).toNat ≤ 10000000) && decide (s.live[j]? = some (xs.length, 1)))
      (.ok (.exit 0, [.lst (.live j) (xs ++ repV (n - i).toNat p), .any, .any, .any]) { s with live := s.live.set j (xs.length + (n - i).toNat, 1) }) .err
  | _, [.lst .exact xs, .int .i64 n, .int .u8 p, .int .i64 i], s =>
    .br (decide (i = 0) && xs.isEmpty && decide (n ≤ 1000000))
      (.br (decide (n ≤ i)) (.ok (.exit 0, [.lst .exact xs, .any, .any, .any]) s) (.ok (.exit 0, [.lst (.live s.live.length) (xs ++ repV (n - i).toNat p), .any, .any, .any]) { s with live := s.live ++ [(xs.length + (n - i).toNat, 1)] })) .err
  | _, _, _ => .err

def l40 : LoopC := ⟨40, 2, 18, [0, 1, 2, 7], F40, false⟩
def c39 : Cfg := symCfg txCfg (fun _ => true) [] [l40]

theorem sized_u8 (n : Int) : sizedB Tryz.prog 5 (.int .u8 n) = true := by kernel_rfl
theorem roomB_u8 {n : Nat} (h : n ≤ 100000000) : roomB Tryz.prog 5 n = true := by
  have e : bytesT Tryz.prog 5 = 1 := by kernel_rfl
  unfold roomB
  rw [e]
  simp; omega

theorem set_self {L : List (Nat × Nat)} {j : Nat} {x : Nat × Nat} (h : L[j]? = some x) : L.set j x = L := by
  apply List.ext_getElem?
  intro i
  rw [List.getElem?_set]
  by_cases e : j = i
  · subst e
    rw [if_pos rfl, h]
    split
    · rfl
    · rename_i hn; rw [List.getElem?_eq_none (by omega)] at h; simp at h
  · rw [if_neg e]

theorem repV_succ (n : Nat) (p : Int) : repV (n + 1) p = .int .u8 p :: repV n p := rfl

theorem l40_ok : l40.Ok Tryz.prog c39 := by
  refine ⟨by kernel_rfl, by kernel_rfl, fun xs _ => match xs with | [_, .int _ n, _, .int _ i] => (n - i).toNat | _ => 0, fun k xs s K Kp hl hF => ?_⟩
  simp only [l40, Bool.false_eq_true, if_false] at hF hl ⊢
  unfold F40 at hF
  split at hF
  · rename_i j xs n p i
    obtain ⟨hg, hX⟩ := br_err hF
    clear hF
    simp only [Bool.and_eq_true, decide_eq_true_eq] at hg
    obtain ⟨⟨⟨h0, hi⟩, hlen⟩, hlive⟩ := hg
    refine Out.all_eq (y := .br (decide (i < n))
      (.br false (.br (roomB Tryz.prog 5 (xs.length + 1)) (.ok (.norm, [.lst (.live j) xs, .int .i64 n, .int .u8 p, .int .i64 (IntKind.i64.wrap (i + 1))], []) s) .err)
        (.br (roomB Tryz.prog 5 (xs.length + 1) && true && decide (s.live[j]? = some (xs.length, 1)))
          (.ok (.norm, [.lst (.live j) (xs ++ [.int .u8 p]), .int .i64 n, .int .u8 p, .int .i64 (IntKind.i64.wrap (i + 1))], []) { s with live := s.live.set j (xs.length + 1, 1) }) .err))
      (.ok (.exit 0, [.lst (.live j) xs, .int .i64 n, .int .u8 p, .int .i64 i], []) s)) (by kernel_rfl) ?_
    refine ⟨fun h => br_no rfl (br_need ?_ ?_), fun h => ?_⟩
    · simp only [decide_eq_true_eq] at h
      rw [roomB_u8 (by omega), hlive]; simp
    · simp only [decide_eq_true_eq] at h
      have hjl : j < s.live.length := by
        rcases Nat.lt_or_ge j s.live.length with h' | h'
        · exact h'
        · rw [List.getElem?_eq_none h'] at hlive; simp at hlive
      rw [wrap64_id (n := i + 1) (by omega) (by omega)]
      refine ⟨rfl, fun _ => ⟨by simp only; omega, ?_⟩, fun h => absurd rfl h⟩
      have e1 : (n - i).toNat = (n - (i + 1)).toNat + 1 := by omega
      simp only [F40]
      refine br_need ?_ ?_
      · simp only [Bool.and_eq_true, decide_eq_true_eq, List.length_append, List.length_singleton]
        refine ⟨⟨⟨by omega, by omega⟩, by omega⟩, ?_⟩
        rw [List.getElem?_set, if_pos rfl, if_pos hjl]
      · rw [e1, repV_succ] at hX
        have e2 : xs ++ [V.int .u8 p] ++ repV (n - (i + 1)).toNat p = xs ++ (V.int .u8 p :: repV (n - (i + 1)).toNat p) := by simp
        rw [List.set_set, e2]
        have e3 : (xs ++ [V.int .u8 p]).length + (n - (i + 1)).toNat = xs.length + ((n - (i + 1)).toNat + 1) := by simp; omega
        rw [e3]
        exact hX
    · simp only [decide_eq_false_iff_not] at h
      have e1 : (n - i).toNat = 0 := by omega
      rw [e1] at hX
      simp only [repV, List.replicate_zero, List.append_nil, Nat.add_zero] at hX
      rw [set_self hlive] at hX
      refine ⟨rfl, fun h => by simp at h, fun _ => ⟨_, .same (.any (.any (.any .nil))), hX⟩⟩
  · rename_i xs n p i
    obtain ⟨hg, hX⟩ := br_err hF
    clear hF
    simp only [Bool.and_eq_true, decide_eq_true_eq, List.isEmpty_iff] at hg
    obtain ⟨⟨rfl, rfl⟩, hlen⟩ := hg
    refine Out.all_eq (y := .br (decide ((0 : Int) < n))
      (.br false (.br (roomB Tryz.prog 5 (0 + 1)) (.ok (.norm, [.lst .exact [], .int .i64 n, .int .u8 p, .int .i64 1], []) s) .err)
        (.br (roomB Tryz.prog 5 (0 + 1) && true && true)
          (.ok (.norm, [.lst (.live s.live.length) [.int .u8 p], .int .i64 n, .int .u8 p, .int .i64 1], []) { s with live := s.live ++ [(1, 1)] }) .err))
      (.ok (.exit 0, [.lst .exact [], .int .i64 n, .int .u8 p, .int .i64 0], []) s)) (by kernel_rfl) ?_
    simp only [List.length_nil, Nat.zero_add, List.nil_append] at hX ⊢
    refine ⟨fun h => br_no rfl (br_need (by rw [roomB_u8 (by omega)]; rfl) ?_), fun h => ?_⟩
    · simp only [decide_eq_true_eq] at h
      refine ⟨rfl, fun _ => ⟨by simp only; omega, ?_⟩, fun h => absurd rfl h⟩
      have h1 := hX.2 (by simp; omega)
      have e1 : (n - 0).toNat = (n - 1).toNat + 1 := by omega
      simp only [F40]
      refine br_need ?_ ?_
      · simp only [Bool.and_eq_true, decide_eq_true_eq]
        refine ⟨⟨⟨by omega, by omega⟩, by simp; omega⟩, ?_⟩
        simp
      · rw [e1, repV_succ] at h1
        have e2 : (s.live ++ [(1, 1)]).set s.live.length ([V.int .u8 p].length + (n - 1).toNat, 1) = s.live ++ [((n - 1).toNat + 1, 1)] := by
          rw [List.set_append_right _ _ (Nat.le_refl _)]
          simp; omega
        rw [e2]
        exact h1
    · simp only [decide_eq_false_iff_not] at h
      have h1 := hX.1 (by simp; omega)
      refine ⟨rfl, fun h => by simp at h, fun _ => ⟨_, .same (.any (.any (.any .nil))), h1⟩⟩
  · exact hF.elim

theorem c39_ok : CfgOk Tryz.prog c39 := symCfg_ok tx_base .nil (by intro c hc; rcases List.mem_singleton.1 hc with rfl; exact l40_ok)

/-- The reference's pads. -/
def padsRH : List V → St → Out V
  | [.lst (.live j) xs, .int .i64 n, .int .u8 p], s =>
    .br (decide (n ≤ 1000000) && decide (xs.length + (n - 0).toNat ≤ 10000000) && decide (s.live[j]? = some (xs.length, 1)))
      (.ok (.lst (.live j) (xs ++ repV (n - 0).toNat p)) { s with live := s.live.set j (xs.length + (n - 0).toNat, 1) }) .err
  | [.lst .exact [], .int .i64 n, .int .u8 p], s =>
    .br (decide (n ≤ 1000000)) (.br (decide (n ≤ 0)) (.ok (.lst .exact []) s) (.ok (.lst (.live s.live.length) (repV (n - 0).toNat p)) { s with live := s.live ++ [((n - 0).toNat, 1)] })) .err
  | _, _ => .err

theorem has40 : Has Tryz.prog 40 padsRH := by
  refine Has.of c39_ok 10 ⟨_, Tryz.func40, rfl⟩ fun args s K Kp h => ?_
  unfold padsRH at h
  split at h
  · rename_i j xs n p
    obtain ⟨hg, hX⟩ := br_err h
    refine Out.all_eq (y := .br (decide ((0 : Int) ≤ 0) && decide (n ≤ 1000000000) && decide (xs.length + (n - 0).toNat ≤ 10000000) && decide (s.live[j]? = some (xs.length, 1)))
      (.ok (.lst (.live j) (xs ++ repV (n - 0).toNat p)) { s with live := s.live.set j (xs.length + (n - 0).toNat, 1) }) .err) (by kernel_rfl) ?_
    simp only [Bool.and_eq_true, decide_eq_true_eq] at hg
    exact br_need (by simp only [Bool.and_eq_true, decide_eq_true_eq]; exact ⟨⟨⟨by omega, by omega⟩, hg.1.2⟩, hg.2⟩) hX
  · rename_i n p
    obtain ⟨hg, hX⟩ := br_err h
    refine Out.all_eq (y := .br (decide ((0 : Int) = 0) && ([] : List V).isEmpty && decide (n ≤ 1000000))
      (.br (decide (n ≤ 0)) (.ok (.lst .exact []) s) (.ok (.lst (.live s.live.length) ([] ++ repV (n - 0).toNat p)) { s with live := s.live ++ [(0 + (n - 0).toNat, 1)] })) .err) (by kernel_rfl) ?_
    simp only [decide_eq_true_eq] at hg
    simp only [Nat.zero_add, List.nil_append]
    exact br_need (by simp; simpa using hg) hX
  · exact h.elim

/-! small ones -/
def wholeC : List V → Option V
  | [.int .i64 n, .int .i64 m, .bool b] => some (.bool (decide (n ≥ m) || (b && (n == -1))))
  | _ => none
def padC : List V → Option V
  | [.int .u8 n] => some (.bool (goodI n))
  | _ => none

theorem has36 : Has Tryz.prog 36 (Ext.val wholeC).out := by
  refine Has.val c12_ok 10 ⟨_, Tryz.func36, rfl⟩ fun args v h => ?_
  unfold wholeC at h
  split at h
  · rename_i n m b
    simp only [Option.some.injEq] at h
    subst h
    refine ⟨rfl, Out.all_eq (y := .ok (.bool (bif decide (n ≥ m) then true else bif b then n == -1 else false)) {}) (by kernel_rfl) ⟨?_, rfl⟩⟩
    cases decide (n ≥ m) <;> cases b <;> rfl
  · simp at h

theorem has37 : Has Tryz.prog 37 (Ext.val padC).out := by
  refine Has.val c12_ok 10 ⟨_, Tryz.func37, rfl⟩ fun args v h => ?_
  unfold padC at h
  split at h
  · rename_i n
    simp only [Option.some.injEq] at h
    subst h
    refine ⟨rfl, Out.all_eq (y := .ok (.bool (goodC n)) {}) (by kernel_rfl) ⟨?_, rfl⟩⟩
    rw [goodC_eq]; rfl
  · simp at h

/-- What the reference's fit makes. -/
def minN (n : Int) : Int := if 1001 < n then 1001 else n
def refFit (l : List UInt8) (n p : Int) : List V := bif decide (n ≤ (l.length : Int)) then bytesV (l.take n.toNat) else bytesV l ++ repV (minN n - l.length).toNat p
def fitRH : List V → St → Out V
  | [.str l, .int .i64 n, .int .u8 p], s => .br (decide (0 ≤ n) && decide (n ≤ 9223372036854775807) && decide (l.length ≤ 100000)) (.ok (.lst .sealed (refFit l n p)) s) .err
  | _, _ => .err

def c391 : Cfg := symCfg txCfg (fun _ => true) [(40, .full padsRH)] []
theorem c391_ok : CfgOk Tryz.prog c391 := symCfg_ok tx_base (.cons has40 .nil) (by simp)

theorem bytesV_length (l : List UInt8) : (bytesV l).length = l.length := by simp [bytesV]
theorem bytesV_closed (l : List UInt8) : closedL (bytesV l) = true := closedL_bytes (bytes_isByte l)
theorem repV_closed (n : Nat) (p : Int) : closedL (repV n p) = true := closedL_all fun x hx => by simp [repV] at hx; rw [hx.2]; rfl
theorem closedL_append {xs ys : List V} (h1 : closedL xs = true) (h2 : closedL ys = true) : closedL (xs ++ ys) = true := by
  induction xs with
  | nil => exact h2
  | cons x xs ih => simp only [List.cons_append, closedL, Bool.and_eq_true] at h1 ⊢; exact ⟨h1.1, ih h1.2⟩

theorem has39 : Has Tryz.prog 39 fitRH := by
  refine Has.shut c391_ok 10 ⟨_, Tryz.func39, rfl⟩ fun args s K Kp h => ?_
  unfold fitRH at h
  split at h
  · rename_i l n p
    obtain ⟨hc, h⟩ := br_err h
    simp only [Bool.and_eq_true, decide_eq_true_eq] at hc
    obtain ⟨⟨h0, h1⟩, h2⟩ := hc
    refine ⟨rfl, ?_⟩
    refine Out.all_eq (y := .br (decide (n ≤ (l.length : Int))) (.br (decide ((0 : Int) ≤ 0 ∧ 0 ≤ n ∧ n ≤ (l.length : Int)))
        (.br (decide (((l.drop (0 : Int).toNat).take (n.toNat - (0 : Int).toNat)).length ≤ 1099511627776)) (.ok (.lst (.live 0) (bytesV ((l.drop (0 : Int).toNat).take (n.toNat - (0 : Int).toNat)))) { live := [(((l.drop (0 : Int).toNat).take (n.toNat - (0 : Int).toNat)).length, 1)] }) .err) .err)
      (.br (decide (l.length ≤ 1099511627776))
        (.br (decide (IntKind.i64.wrap (minN n - l.length) ≤ 1000000) && decide ((bytesV l).length + (IntKind.i64.wrap (minN n - l.length) - 0).toNat ≤ 10000000) && decide (([(l.length, 1)] : List (Nat × Nat))[0]? = some ((bytesV l).length, 1)))
          (.ok (.lst (.live 0) (bytesV l ++ repV (IntKind.i64.wrap (minN n - l.length) - 0).toNat p)) { live := ([(l.length, 1)] : List (Nat × Nat)).set 0 ((bytesV l).length + (IntKind.i64.wrap (minN n - l.length) - 0).toNat, 1) }) .err) .err)) (by kernel_rfl) ?_
    unfold refFit at h
    refine ⟨fun he => ?_, fun he => ?_⟩
    · rw [he] at h
      simp only [decide_eq_true_eq] at he
      refine br_need (by simp; omega) (br_need ?_ ⟨?_, h⟩)
      · simp only [decide_eq_true_eq]
        have := List.length_take_le (n.toNat - (0 : Int).toNat) (l.drop (0 : Int).toNat)
        have h3 : n.toNat ≤ 100000 := by omega
        have h4 : (0 : Int).toNat = 0 := rfl
        omega
      · exact bytesV_closed _
    · rw [he] at h
      simp only [decide_eq_false_iff_not] at he
      have hm : minN n ≤ 1001 ∧ minN n ≤ n ∧ 0 ≤ minN n := by unfold minN; split <;> omega
      rw [wrap64_id (by omega) (by omega)]
      refine br_need (by simp; omega) (br_need ?_ ⟨?_, ?_⟩)
      · simp only [Bool.and_eq_true, decide_eq_true_eq, bytesV_length]
        refine ⟨⟨by omega, by omega⟩, by simp⟩
      · exact closedL_append (bytesV_closed _) (repV_closed _ _)
      · have e : (minN n - (l.length : Int) - 0).toNat = (minN n - (l.length : Int)).toNat := by omega
        rw [e]
        exact h
  · exact h.elim

def c13 : Cfg := symCfg txCfg (fun _ => true) [(20, .val validC), (36, .val wholeC), (37, .val padC), (38, .full outH), (39, .full fitRH), (40, .full padsRH)] []
theorem c13_ok : CfgOk Tryz.prog c13 := symCfg_ok tx_base (.cons has20 (.cons has36 (.cons has37 (.cons has38 (.cons has39 (.cons has40 .nil)))))) (by simp)

/-! Left, Right, Center -/
def resA (ok : Bool) (r : List UInt8) : V := .agg [.str (bif ok then madeStr r else []), .int .i64 (bif ok then madeErr r else 1)]
def padAH (f : List UInt8 → Int → UInt8 → List UInt8) : List V → St → Out V
  | [.str l, .int .i64 n, .int .u8 p], s => .br (decide (n ≤ 9223372036854775807) && decide (l.length ≤ 100000)) (.ok (resA (valid l && goodI p && decide (n ≥ 0)) (f l n (byteOf (.int .u8 p)))) s) .err
  | _, _ => .err

def badArgs (l : List UInt8) (n p : Int) : Bool := bif (bif !valid l then true else !(decide (n ≥ 0) || (false && (n == -1)))) then true else !goodI p
theorem badArgs_eq (l : List UInt8) (n p : Int) : badArgs l n p = !(valid l && goodI p && decide (n ≥ 0)) := by
  unfold badArgs
  generalize decide (n ≥ 0) = c
  cases valid l <;> cases goodI p <;> cases c <;> rfl

theorem made_long {r : List UInt8} (h : r.length > 1000) : madeStr r = [] ∧ madeErr r = 3 := by
  have h1 : ¬ r.length ≤ 1000 := by omega
  unfold madeStr madeErr valid
  simp only [h, h1, decide_true, decide_false, Bool.false_and, cond_true, cond_false, and_self]

theorem many_one {b : UInt8} {n : Int} (hn : 0 ≤ n) : Spec.many [b] n = List.replicate (min n 1001).toNat b := by
  unfold Spec.many
  rw [manyN_bounds (by simp) (by simp) hn]
  have hr : ∀ k, Lib.repeatL [b] k = List.replicate k b := by
    intro k
    induction k with
    | zero => rfl
    | succ k ih => simp [Lib.repeatL, ih, List.replicate_succ]
  have e : min n (1000 / (([b] : List UInt8).length : Int) + 1) = min n 1001 := by simp
  rw [hr, e]

theorem repV_back (n : Nat) (p : Int) : (repV n p).map byteOf = List.replicate n (byteOf (.int .u8 p)) := by simp [repV]

theorem refFit_back (l : List UInt8) (n p : Int) : (refFit l n p).map byteOf = bif decide (n ≤ (l.length : Int)) then l.take n.toNat else l ++ List.replicate (minN n - l.length).toNat (byteOf (.int .u8 p)) := by
  unfold refFit
  cases decide (n ≤ (l.length : Int))
  · simp [bytesV_back, repV_back]
  · simp [bytesV_back]

/-- Two results are the same, or both too long. -/
def Same (a b : List UInt8) : Prop := a = b ∨ (a.length > 1000 ∧ b.length > 1000)
theorem Same.made {a b : List UInt8} (h : Same a b) : madeStr a = madeStr b ∧ madeErr a = madeErr b := by
  rcases h with rfl | ⟨h1, h2⟩
  · exact ⟨rfl, rfl⟩
  · obtain ⟨a1, a2⟩ := made_long h1
    obtain ⟨b1, b2⟩ := made_long h2
    exact ⟨a1.trans b1.symm, a2.trans b2.symm⟩

theorem fit_same {l : List UInt8} {n p : Int} (hn : 0 ≤ n) : Same ((refFit l n p).map byteOf) (fit l n (byteOf (.int .u8 p))) := by
  rw [refFit_back]
  unfold fit
  by_cases h : n ≤ (l.length : Int)
  · simp only [h, decide_true, cond_true]; exact .inl rfl
  · simp only [h, decide_false, cond_false]
    rw [many_one (by omega)]
    by_cases h1 : n ≤ 1000
    · left
      congr 2
      unfold minN
      rw [if_neg (by omega)]
      omega
    · right
      unfold minN
      simp only [List.length_append, List.length_replicate]
      split <;> omega

theorem bytesV_range (l : List UInt8) : (bytesV l).all (fun v => decide (0 ≤ intOr v) && decide (intOr v ≤ 255)) = true := by
  refine List.all_eq_true.2 fun v hv => ?_
  simp only [bytesV, List.mem_map] at hv
  obtain ⟨c, _, rfl⟩ := hv
  have h1 := UInt8.toNat_lt c
  show (decide (0 ≤ (c.toNat : Int)) && decide ((c.toNat : Int) ≤ 255)) = true
  rw [decide_eq_true (by omega : 0 ≤ (c.toNat : Int)), decide_eq_true (by omega : (c.toNat : Int) ≤ 255)]; rfl
theorem repV_range {n : Nat} {p : Int} (hp : goodI p = true) : (repV n p).all (fun v => decide (0 ≤ intOr v) && decide (intOr v ≤ 255)) = true := by
  refine List.all_eq_true.2 fun v hv => ?_
  simp only [repV, List.mem_replicate] at hv
  rw [hv.2]
  simp only [goodI, Bool.and_eq_true, decide_eq_true_eq] at hp
  show (decide (0 ≤ p) && decide (p ≤ 255)) = true
  rw [decide_eq_true (by omega : 0 ≤ p), decide_eq_true (by omega : p ≤ 255)]; rfl
theorem repV_bytes (n : Nat) (p : Int) : (repV n p).all isByteB = true := List.all_eq_true.2 fun v hv => by simp only [repV, List.mem_replicate] at hv; rw [hv.2]; rfl

def outG (xs : List V) : Bool := xs.all isByteB && xs.all (fun v => decide (0 ≤ intOr v) && decide (intOr v ≤ 255))
theorem outG_bytes (l : List UInt8) : outG (bytesV l) = true := by unfold outG; rw [bytesV_range]; exact Bool.and_eq_true_iff.2 ⟨bytes_isByte l, rfl⟩
theorem outG_rep {n : Nat} {p : Int} (hp : goodI p = true) : outG (repV n p) = true := by unfold outG; rw [repV_range hp, repV_bytes]; rfl
theorem outG_append {xs ys : List V} (h1 : outG xs = true) (h2 : outG ys = true) : outG (xs ++ ys) = true := by
  unfold outG at *
  simp only [List.all_append, Bool.and_eq_true] at *
  exact ⟨⟨h1.1, h2.1⟩, ⟨h1.2, h2.2⟩⟩
theorem outG_refFit {l : List UInt8} {n p : Int} (hp : goodI p = true) : outG (refFit l n p) = true := by
  unfold refFit
  cases decide (n ≤ (l.length : Int))
  · exact outG_append (outG_bytes _) (outG_rep hp)
  · exact outG_bytes _

/-- What out makes of bytes. -/
def outV (xs : List V) : V := .agg [.str (madeStr (xs.map byteOf)), .int .i64 (madeErr (xs.map byteOf))]
def outS (xs : List V) (lv : List (Nat × Nat)) : St := ⟨[.row 31 [.str (madeStr (xs.map byteOf)), .int .i64 (madeErr (xs.map byteOf))]], lv⟩

theorem headA_all {ok c : Bool} {r : List UInt8} {s s' : St} {K Kp : V → St → Prop} {rest : Out V} (he : c = !ok) (h : K (resA ok r) s)
    (hrest : ok = true → K (resA true r) s → rest.all (fun v _ => closed (strip v) = true ∧ K (strip v) s) (fun v _ => closed v = true ∧ Kp v s)) :
    (Out.br c (.ok (.agg [.str [], .int .i64 1]) s') rest).all (fun v _ => closed (strip v) = true ∧ K (strip v) s) (fun v _ => closed v = true ∧ Kp v s) := by
  subst he
  cases ok with
  | true => exact br_no rfl (hrest rfl h)
  | false => exact br_yes rfl ⟨rfl, h⟩

theorem outV_same {xs : List V} {r : List UInt8} (h : Same (xs.map byteOf) r) : outV xs = resA true r := by
  obtain ⟨h1, h2⟩ := h.made
  unfold outV resA
  rw [h1, h2]; rfl

theorem has13 : Has Tryz.prog 13 (padAH fit) := by
  refine Has.shut c13_ok 10 ⟨_, Tryz.func13, rfl⟩ fun args s K Kp h => ?_
  unfold padAH at h
  split at h
  · rename_i l n p
    obtain ⟨hc, h⟩ := br_err h
    simp only [Bool.and_eq_true, decide_eq_true_eq] at hc
    refine ⟨rfl, ?_⟩
    refine Out.all_eq (y := .br (badArgs l n p) (.ok (.agg [.str [], .int .i64 1]) ⟨[.row 31 [.str [], .int .i64 1]], []⟩)
      (.br (decide (0 ≤ n) && decide (n ≤ 9223372036854775807) && decide (l.length ≤ 100000))
        (.br (outG (refFit l n p)) (.ok (outV (refFit l n p)) (outS (refFit l n p) [])) .err) .err)) (by kernel_rfl) ?_
    refine headA_all (badArgs_eq l n p) h fun hok hK => ?_
    simp only [Bool.and_eq_true, decide_eq_true_eq] at hok
    refine br_need (by simp [hc]; omega) (br_need (outG_refFit hok.1.2) ?_)
    rw [outV_same (fit_same hok.2)]
    exact ⟨rfl, hK⟩
  · exact h.elim

/-! Right and Center -/
/-- A list to which more may be appended. -/
def Fresh (o : Own) (xs : List V) (s : St) : Prop := (o = .exact ∧ xs = []) ∨ ∃ j, o = .live j ∧ s.live[j]? = some (xs.length, 1)

theorem pads_all {o : Own} {xs : List V} {n p : Int} {s : St} {K Kp : V → St → Prop} (hf : Fresh o xs s) (hn : n ≤ 1000000) (hx : xs.length ≤ 1000000)
    (hk : ∀ o' s', Fresh o' (xs ++ repV n.toNat p) s' → s'.heap = s.heap → K (.lst o' (xs ++ repV n.toNat p)) s') : (padsRH [.lst o xs, .int .i64 n, .int .u8 p] s).all K Kp := by
  rcases hf with ⟨rfl, rfl⟩ | ⟨j, rfl, hj⟩
  · simp only [padsRH]
    refine br_need (by simpa using hn) ⟨fun h => ?_, fun h => ?_⟩
    · simp only [decide_eq_true_eq] at h
      have e : n.toNat = 0 := by omega
      have := hk .exact s (by rw [e]; exact .inl ⟨rfl, rfl⟩) rfl
      rw [e] at this
      exact this
    · simp only [decide_eq_false_iff_not] at h
      have e : (n - 0).toNat = n.toNat := by omega
      rw [e]
      have := hk (.live s.live.length) { s with live := s.live ++ [(n.toNat, 1)] } (.inr ⟨_, rfl, by simp [repV]⟩) rfl
      rw [List.nil_append] at this
      exact this
  · simp only [padsRH]
    have e : (n - 0).toNat = n.toNat := by omega
    rw [e]
    have hjl : j < s.live.length := by
      rcases Nat.lt_or_ge j s.live.length with h' | h'
      · exact h'
      · rw [List.getElem?_eq_none h'] at hj; simp at hj
    refine br_need ?_ (hk (.live j) { s with live := s.live.set j (xs.length + n.toNat, 1) } (.inr ⟨j, rfl, ?_⟩) rfl)
    · simp only [Bool.and_eq_true, decide_eq_true_eq]
      exact ⟨⟨by omega, by omega⟩, hj⟩
    · rw [List.getElem?_set, if_pos rfl, if_pos hjl]
      simp [repV]

noncomputable def appOf (v : V) (l : List UInt8) (s : St) : Out V := (symAppend Tryz.prog 47 9 v (.str l) s).getD .err

theorem app_eq {o : Own} {xs : List V} {l : List UInt8} {s : St} : appOf (.lst o xs) l s =
    .br (bytesV l).isEmpty (.br (roomB Tryz.prog 5 (xs.length + (bytesV l).length)) (.ok (.lst o xs) s) .err)
      (match o with
        | .exact => .br (roomB Tryz.prog 5 (xs.length + (bytesV l).length) && (bytesV l).all (sizedB Tryz.prog 5) && xs.all (sizedB Tryz.prog 5))
            (.ok (.lst (.live s.live.length) (xs ++ bytesV l)) { s with live := s.live ++ [(xs.length + (bytesV l).length, 1)] }) .err
        | .live i => .br (roomB Tryz.prog 5 (xs.length + (bytesV l).length) && (bytesV l).all (sizedB Tryz.prog 5) && decide (s.live[i]? = some (xs.length, 1)))
            (.ok (.lst (.live i) (xs ++ bytesV l)) { s with live := s.live.set i (xs.length + (bytesV l).length, 1) }) .err
        | .sealed => .err) := by kernel_rfl

theorem bytesV_sized (l : List UInt8) : (bytesV l).all (sizedB Tryz.prog 5) = true := List.all_eq_true.2 fun v hv => by
  simp only [bytesV, List.mem_map] at hv
  obtain ⟨c, _, rfl⟩ := hv
  exact sized_u8 _

theorem app_all {o : Own} {xs : List V} {l : List UInt8} {s : St} {K Kp : V → St → Prop} (hf : Fresh o xs s) (hx : xs.length + l.length ≤ 10000000)
    (hk : ∀ o' s', Fresh o' (xs ++ bytesV l) s' → s'.heap = s.heap → K (.lst o' (xs ++ bytesV l)) s') : (appOf (.lst o xs) l s).all K Kp := by
  rw [app_eq, bytesV_sized, roomB_u8 (by rw [bytesV_length]; omega)]
  refine ⟨fun h => br_need rfl ?_, fun h => ?_⟩
  · have e : bytesV l = [] := by simpa using h
    rw [e] at hk
    simp only [List.append_nil] at hk
    exact hk o s hf rfl
  · rcases hf with ⟨rfl, rfl⟩ | ⟨j, rfl, hj⟩
    · refine br_need rfl (hk _ { s with live := s.live ++ [(0 + (bytesV l).length, 1)] } (.inr ⟨_, rfl, ?_⟩) rfl)
      simp
    · have hjl : j < s.live.length := by
        rcases Nat.lt_or_ge j s.live.length with h' | h'
        · exact h'
        · rw [List.getElem?_eq_none h'] at hj; simp at hj
      refine br_need (by rw [hj]; simp) (hk _ { s with live := s.live.set j (xs.length + (bytesV l).length, 1) } (.inr ⟨j, rfl, ?_⟩) rfl)
      rw [List.getElem?_set, if_pos rfl, if_pos hjl, List.length_append]

def outK (v : V) (s : St) : Out V :=
  match v with
  | .lst _ xs => .br (outG xs) (.ok (outV xs) (outS xs s.live)) .err
  | _ => .err

theorem out_all {o : Own} {xs : List V} {r : List UInt8} {s s0 : St} {K Kp : V → St → Prop} (hg : outG xs = true) (hs : Same (xs.map byteOf) r) (hK : K (resA true r) s0) :
    (outK (.lst o xs) s).all (fun v _ => closed (strip v) = true ∧ K (strip v) s0) (fun v _ => closed v = true ∧ Kp v s0) := by
  simp only [outK]
  refine br_need hg ?_
  rw [outV_same hs]
  exact ⟨rfl, hK⟩

def s31 : St := ⟨[.row 31 [.str [], .int .i64 0]], []⟩

theorem right_same {l : List UInt8} {n p : Int} (hl : l.length ≤ 1000) (h : ¬ n ≤ (l.length : Int)) : Same ((repV (minN n - l.length).toNat p ++ bytesV l).map byteOf) (right l n (byteOf (.int .u8 p))) := by
  rw [List.map_append, repV_back, bytesV_back]
  unfold right
  simp only [h, decide_false, cond_false]
  rw [many_one (by omega)]
  by_cases h1 : n ≤ 1000
  · left
    congr 2
    unfold minN
    rw [if_neg (by omega)]
    omega
  · right
    unfold minN
    simp only [List.length_append, List.length_replicate]
    split <;> omega

theorem has14 : Has Tryz.prog 14 (padAH right) := by
  refine Has.shut c13_ok 10 ⟨_, Tryz.func14, rfl⟩ fun args s K Kp h => ?_
  unfold padAH at h
  split at h
  · rename_i l n p
    obtain ⟨hc, h⟩ := br_err h
    simp only [Bool.and_eq_true, decide_eq_true_eq] at hc
    refine ⟨rfl, ?_⟩
    refine Out.all_eq (y := .br (badArgs l n p) (.ok (.agg [.str [], .int .i64 1]) ⟨[.row 31 [.str [], .int .i64 1]], []⟩)
      (.br (decide (n ≤ (l.length : Int)))
        (.br (decide (0 ≤ dA l n ∧ dA l n ≤ (l.length : Int) ∧ (l.length : Int) ≤ (l.length : Int)))
          (.br (decide (((l.drop (dA l n).toNat).take ((l.length : Int).toNat - (dA l n).toNat)).length ≤ 1099511627776))
            (outK (.lst (.live 0) (bytesV ((l.drop (dA l n).toNat).take ((l.length : Int).toNat - (dA l n).toNat)))) ⟨[.row 31 [.str [], .int .i64 0]], [(((l.drop (dA l n).toNat).take ((l.length : Int).toNat - (dA l n).toNat)).length, 1)]⟩) .err) .err)
        ((padsRH [.lst .exact [], .int .i64 (IntKind.i64.wrap (minN n - l.length)), .int .u8 p] s31).bind fun v s => (appOf v l s).bind fun v s => outK v s))) (by kernel_rfl) ?_
    refine headA_all (badArgs_eq l n p) h fun hok hK => ?_
    simp only [Bool.and_eq_true, decide_eq_true_eq] at hok
    have hv := (ascii_of_valid hok.1.1).2
    refine ⟨fun he => ?_, fun he => ?_⟩
    · simp only [decide_eq_true_eq] at he
      have eA : dA l n = (l.length : Int) - n := wrap64_id (by omega) (by omega)
      rw [eA]
      have ht : (l.drop ((l.length : Int) - n).toNat).take ((l.length : Int).toNat - ((l.length : Int) - n).toNat) = l.drop ((l.length : Int) - n).toNat := List.take_of_length_le (by simp)
      rw [ht]
      refine br_need (by simp; omega) (br_need (by simp; omega) (out_all (outG_bytes _) ?_ hK))
      rw [bytesV_back]
      left
      unfold right
      simp only [he, decide_true, cond_true]
    · simp only [decide_eq_false_iff_not] at he
      have hm : minN n ≤ 1001 ∧ minN n ≤ n ∧ 0 ≤ minN n := by unfold minN; split <;> omega
      rw [wrap64_id (by omega) (by omega)]
      refine bind_all _ (pads_all (.inl ⟨rfl, rfl⟩) (by omega) (by simp) fun o' s' hf _ => bind_all _ (app_all hf (by simp [repV]; omega) fun o'' s'' hf' _ => ?_))
      simp only [List.nil_append]
      exact out_all (outG_append (outG_rep hok.1.2) (outG_bytes _)) (right_same hv he) hK
  · exact h.elim

theorem center_same {l : List UInt8} {n p : Int} (hl : l.length ≤ 1000) (h : ¬ n ≤ (l.length : Int)) (h1 : n ≤ 1000) :
    (repV ((n - l.length).tdiv 2).toNat p ++ bytesV l ++ repV ((n - l.length) - (n - l.length).tdiv 2).toNat p).map byteOf = center l n (byteOf (.int .u8 p)) := by
  have hq : (n - (l.length : Int)).tdiv 2 = (n - (l.length : Int)) / 2 := Int.tdiv_eq_ediv_of_nonneg (by omega)
  rw [List.map_append, List.map_append, repV_back, repV_back, bytesV_back]
  unfold center
  simp only [h, decide_false, cond_false]
  rw [many_one (by omega), many_one (by omega), hq]
  have e1 : min ((n - (l.length : Int)) / 2) 1001 = (n - (l.length : Int)) / 2 := by omega
  have e2 : min (n - (l.length : Int) - (n - (l.length : Int)) / 2) 1001 = n - (l.length : Int) - (n - (l.length : Int)) / 2 := by omega
  rw [e1, e2]

theorem center_long {l : List UInt8} {n p : Int} (hl : l.length ≤ 1000) (h : ¬ n ≤ (l.length : Int)) (h1 : n > 1000) : (center l n (byteOf (.int .u8 p))).length > 1000 := by
  have hq : (n - (l.length : Int)).tdiv 2 = (n - (l.length : Int)) / 2 := Int.tdiv_eq_ediv_of_nonneg (by omega)
  unfold center
  simp only [h, decide_false, cond_false]
  rw [many_one (by omega), many_one (by omega), hq]
  simp only [List.length_append, List.length_replicate]
  omega

theorem has15 : Has Tryz.prog 15 (padAH center) := by
  refine Has.shut c13_ok 10 ⟨_, Tryz.func15, rfl⟩ fun args s K Kp h => ?_
  unfold padAH at h
  split at h
  · rename_i l n p
    obtain ⟨hc, h⟩ := br_err h
    simp only [Bool.and_eq_true, decide_eq_true_eq] at hc
    refine ⟨rfl, ?_⟩
    refine Out.all_eq (y := .br (badArgs l n p) (.ok (.agg [.str [], .int .i64 1]) ⟨[.row 31 [.str [], .int .i64 1]], []⟩)
      (.br (decide (n ≤ (l.length : Int)))
        (.br true (.br (decide (0 ≤ hA l n ∧ hA l n ≤ IntKind.i64.wrap (hA l n + n) ∧ IntKind.i64.wrap (hA l n + n) ≤ (l.length : Int)))
          (.br (decide ((oneC l n).length ≤ 1099511627776))
            (outK (.lst (.live 0) (bytesV (oneC l n))) ⟨[.row 31 [.str [], .int .i64 0]], [((oneC l n).length, 1)]⟩) .err) .err) .err)
        (.br (decide (n > 1000)) (.ok (.agg [.str [], .int .i64 3]) ⟨[.row 31 [.str [], .int .i64 3]], []⟩)
          (.br true ((padsRH [.lst .exact [], .int .i64 (hB l n), .int .u8 p] s31).bind fun v s => (appOf v l s).bind fun v s =>
            .br true ((padsRH [v, .int .i64 (gB l n), .int .u8 p] s).bind fun v s => outK v s) .err) .err)))) (by kernel_rfl) ?_
    refine headA_all (badArgs_eq l n p) h fun hok hK => ?_
    simp only [Bool.and_eq_true, decide_eq_true_eq] at hok
    have hv := (ascii_of_valid hok.1.1).2
    have hn := hok.2
    have eA : dA l n = (l.length : Int) - n := wrap64_id (by omega) (by omega)
    have eB : dB l n = n - (l.length : Int) := wrap64_id (by omega) (by omega)
    refine ⟨fun he => ?_, fun he => ⟨fun h1 => ?_, fun h1 => br_need rfl ?_⟩⟩
    · simp only [decide_eq_true_eq] at he
      have hq : ((l.length : Int) - n).tdiv 2 = ((l.length : Int) - n) / 2 := Int.tdiv_eq_ediv_of_nonneg (by omega)
      have e1 : hA l n = ((l.length : Int) - n).tdiv 2 := by unfold hA; rw [eA]; exact wrap64_id (by omega) (by omega)
      have e2 : IntKind.i64.wrap (hA l n + n) = hA l n + n := wrap64_id (by omega) (by omega)
      have e3 : oneC l n = (l.drop (((l.length : Int) - n).tdiv 2).toNat).take n.toNat := by
        unfold oneC
        rw [e2, e1]
        congr 1
        omega
      have hle : (oneC l n).length ≤ 1000 := by
        rw [e3]
        have := List.length_take_le n.toNat (l.drop (((l.length : Int) - n).tdiv 2).toNat)
        omega
      refine br_need rfl (br_need ?_ (br_need (by simp; omega) (out_all (outG_bytes _) ?_ hK)))
      · rw [e2, e1]
        simp only [decide_eq_true_eq]
        omega
      · rw [bytesV_back, e3]
        left
        unfold center
        simp only [he, decide_true, cond_true]
    · simp only [decide_eq_false_iff_not] at he
      simp only [decide_eq_true_eq] at h1
      obtain ⟨m1, m2⟩ := made_long (center_long (p := p) hv he h1)
      have : resA true (center l n (byteOf (.int .u8 p))) = .agg [.str [], .int .i64 3] := by unfold resA; rw [m1, m2]; rfl
      rw [this] at hK
      exact ⟨rfl, hK⟩
    · simp only [decide_eq_false_iff_not] at he h1
      have hq : (n - (l.length : Int)).tdiv 2 = (n - (l.length : Int)) / 2 := Int.tdiv_eq_ediv_of_nonneg (by omega)
      have e1 : hB l n = (n - (l.length : Int)).tdiv 2 := by unfold hB; rw [eB]; exact wrap64_id (by omega) (by omega)
      have e2 : gB l n = (n - (l.length : Int)) - (n - (l.length : Int)).tdiv 2 := by unfold gB; rw [eB, e1]; exact wrap64_id (by omega) (by omega)
      rw [e1, e2]
      refine bind_all _ (pads_all (.inl ⟨rfl, rfl⟩) (by omega) (by simp) fun o' s' hf _ => bind_all _ (app_all hf (by simp [repV]; omega) fun o'' s'' hf' _ => br_need rfl (bind_all _ (pads_all hf' (by omega) (by simp [repV, bytesV_length]; omega) fun o3 s3 _ _ => ?_))))
      simp only [List.nil_append]
      exact out_all (outG_append (outG_append (outG_rep hok.1.2) (outG_bytes _)) (outG_rep hok.1.2)) (.inl (center_same hv he (by omega))) hK
  · exact h.elim
end Go.Ev
