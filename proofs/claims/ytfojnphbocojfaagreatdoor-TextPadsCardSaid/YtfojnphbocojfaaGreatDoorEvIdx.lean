/- Loops that look for the first element of a list that is as asked (slices.IndexFunc and its kin). -/
import Derived.Test.YtfojnphbocojfaaGreatDoorEvFn
set_option linter.all false
set_option linter.unusedVariables false
set_option linter.unusedSimpArgs false
namespace Go.Ev
open Go Go.RowKit
variable [Glob]

theorem br_err {α : Type} {t : Bool} {x : Out α} {K : α → St → Prop} {Kp : V → St → Prop} (h : (Out.br t x .err).all K Kp) : t = true ∧ x.all K Kp := by
  cases t with
  | true => exact ⟨rfl, h.1 rfl⟩
  | false => exact (h.2 rfl).elim

theorem br_need {α : Type} {t : Bool} {x : Out α} {K : α → St → Prop} {Kp : V → St → Prop} (ht : t = true) (hx : x.all K Kp) : (Out.br t x .err).all K Kp :=
  ⟨fun _ => hx, fun h => by rw [ht] at h; simp at h⟩
theorem br_yes {α : Type} {t : Bool} {x y : Out α} {K : α → St → Prop} {Kp : V → St → Prop} (ht : t = true) (hx : x.all K Kp) : (Out.br t x y).all K Kp :=
  ⟨fun _ => hx, fun h => by rw [ht] at h; simp at h⟩
theorem br_no {α : Type} {t : Bool} {x y : Out α} {K : α → St → Prop} {Kp : V → St → Prop} (ht : t = false) (hy : y.all K Kp) : (Out.br t x y).all K Kp :=
  ⟨fun h => by rw [ht] at h; simp at h, fun _ => hy⟩

/-- The contract of such a loop. -/
def idxF (st : St → Bool) (isf dom : V → Bool) (bad : St → V → Bool) : Nat → List V → St → Out (Ex × List V)
  | _ + 6, [.lst _ xs, f, _, .int .i64 n, .int .i64 i], s =>
    if st s && isf f then
    .br (decide (0 ≤ i) && decide (n = xs.length) && decide (xs.length ≤ 1000000000) && xs.all dom)
      (.br ((xs.drop i.toNat).any (bad s)) (.ok (.ret, [.any, .any, .int .i64 (i + (xs.drop i.toNat).findIdx (bad s)), .any, .any]) s) (.ok (.exit 0, [.any, .any, .any, .any, .any]) s)) .err
    else .err
  | _, _, _ => .err

/-- One of its rounds. -/
def idxT (at_ B : Bool) (o : Own) (xs : List V) (f r : V) (n i : Int) (s : St) : Out (Ex × List V × List Nat) :=
  .br (decide (i < n))
    (.br at_
      (.br B (.ok (.ret, [.lst o xs, f, .int .i64 i, .int .i64 n, .int .i64 i], []) s)
        (.ok (.norm, [.lst o xs, f, r, .int .i64 n, .int .i64 (IntKind.i64.wrap (i + 1))], []) s)) .err)
    (.ok (.exit 0, [.lst o xs, f, r, .int .i64 n, .int .i64 i], []) s)

def idxμ (xs : List V) (_ : St) : Nat :=
  match xs with
  | [_, _, _, .int _ n, .int _ i] => (n - i).toNat
  | _ => 0

theorem wrap64_id {n : Int} (h1 : -9223372036854775808 ≤ n) (h2 : n < 9223372036854775808) : IntKind.i64.wrap n = n := by
  unfold IntKind.wrap
  simp only [IntKind.bits, IntKind.signed, Bool.true_and, decide_eq_true_eq, Nat.reduceSub, Int.reducePow, ge_iff_le]
  split <;> omega

theorem idx_round {st : St → Bool} {isf dom : V → Bool} {bad : St → V → Bool} {R : Out (Ex × List V × List Nat)} {at_ B : Bool} {o : Own} {xs : List V} {f r : V} {n i : Int} {s : St} {k : Nat} {K : Ex × List V → St → Prop} {Kp : V → St → Prop}
    (hR : R = idxT at_ B o xs f r n i s)
    (hat : ∀ x, xs[i.toNat]? = some x → 0 ≤ i → dom x = true → at_ = true)
    (hB : ∀ x, xs[i.toNat]? = some x → dom x = true → B = bad s x)
    (hF : (idxF st isf dom bad (k + 6) [.lst o xs, f, r, .int .i64 n, .int .i64 i] s).all K Kp) :
    R.all (fun q s' => q.2.2 = [] ∧ (q.1 = .norm → idxμ q.2.1 s' < idxμ [.lst o xs, f, r, .int .i64 n, .int .i64 i] s ∧ (idxF st isf dom bad (k + 6) q.2.1 s').all K Kp) ∧ (q.1 ≠ .norm → ∃ ys, WeakL ys q.2.1 ∧ K (q.1, ys) s')) Kp := by
  simp only [idxF] at hF
  split at hF
  · rename_i hst
    have hst' := hst
    simp only [Bool.and_eq_true] at hst'
    obtain ⟨hg, hF⟩ := br_err hF
    simp only [Bool.and_eq_true, decide_eq_true_eq] at hg
    obtain ⟨⟨⟨h0, hn⟩, hlen⟩, hall⟩ := hg
    subst hR
    refine ⟨fun hi => ?_, fun hi => ?_⟩
    · simp only [decide_eq_true_eq] at hi
      have hlt : i.toNat < xs.length := by omega
      have hx : xs[i.toNat]? = some xs[i.toNat] := List.getElem?_eq_getElem hlt
      have hd : dom xs[i.toNat] = true := List.all_eq_true.1 hall _ (List.getElem_mem hlt)
      have hdrop : xs.drop i.toNat = xs[i.toNat] :: xs.drop (i.toNat + 1) := List.drop_eq_getElem_cons hlt
      refine ⟨fun _ => ⟨fun hb => ?_, fun hb => ?_⟩, fun h => ?_⟩
      · have hbad : bad s xs[i.toNat] = true := by rw [← hB _ hx hd]; exact hb
        refine ⟨rfl, fun h => by simp at h, fun _ => ⟨_, .any (.any (.same (.any (.any .nil)))), ?_⟩⟩
        have := hF.1 (by rw [hdrop, List.any_cons, hbad, Bool.true_or])
        rw [hdrop, List.findIdx_cons, hbad] at this
        have e0 : i + ((bif true then 0 else List.findIdx (bad s) (List.drop (i.toNat + 1) xs) + 1 : Nat) : Int) = i := by simp
        rw [e0] at this
        exact this
      · have hbad : bad s xs[i.toNat] = false := by rw [← hB _ hx hd]; exact hb
        have hw : IntKind.i64.wrap (i + 1) = i + 1 := wrap64_id (by omega) (by omega)
        have hi1 : (i + 1).toNat = i.toNat + 1 := by omega
        refine ⟨rfl, fun _ => ⟨?_, ?_⟩, fun h => by simp at h⟩
        · simp only [idxμ, hw]; omega
        · simp only [hw, idxF, hst, if_true]
          have hany : (xs.drop i.toNat).any (bad s) = (xs.drop (i.toNat + 1)).any (bad s) := by rw [hdrop, List.any_cons, hbad, Bool.false_or]
          have hfi : i + ((xs.drop i.toNat).findIdx (bad s) : Int) = i + 1 + ((xs.drop (i.toNat + 1)).findIdx (bad s) : Int) := by
            rw [hdrop, List.findIdx_cons, hbad]; simp; omega
          rw [hany, hfi] at hF
          refine ⟨fun _ => ?_, fun h => ?_⟩
          · rw [hi1]; exact hF
          · have : (decide (0 ≤ i + 1) && decide (n = xs.length) && decide (xs.length ≤ 1000000000) && xs.all dom) = true := by
              simp only [Bool.and_eq_true, decide_eq_true_eq]; exact ⟨⟨⟨by omega, hn⟩, hlen⟩, hall⟩
            rw [this] at h; simp at h
      · rw [hat _ hx h0 hd] at h; simp at h
    · simp only [decide_eq_false_iff_not] at hi
      have hnil : xs.drop i.toNat = [] := List.drop_eq_nil_of_le (by omega)
      refine ⟨rfl, fun h => by simp at h, fun _ => ⟨_, .any (.any (.any (.any (.any .nil)))), ?_⟩⟩
      exact hF.2 (by rw [hnil]; rfl)
  · exact hF.elim

theorem idxF_inv {st : St → Bool} {isf dom : V → Bool} {bad : St → V → Bool} {d : Nat} {xs : List V} {s : St} {K : Ex × List V → St → Prop} {Kp : V → St → Prop} (h : (idxF st isf dom bad d xs s).all K Kp) :
    ∃ k o l f r n i, d = k + 6 ∧ xs = [.lst o l, f, r, .int .i64 n, .int .i64 i] ∧ st s = true ∧ isf f = true := by
  unfold idxF at h
  split at h
  · split at h
    · rename_i hc
      simp only [Bool.and_eq_true] at hc
      exact ⟨_, _, _, _, _, _, _, rfl, rfl, hc.1, hc.2⟩
    · exact h.elim
  · exact h.elim

theorem idx_ok {P : Program} {cfg : Cfg} {f r n : Nat} {st : St → Bool} {isf dom : V → Bool} {bad : St → V → Bool} (h1 : loopsApart P f = true) (h2 : firstRegion (loopCode P f r) = r)
    (hround : ∀ k o xs fv rv n' i s, st s = true → isf fv = true → ∃ at_ B, roundOut (ctxOf P cfg f (k + 6)) (loopCode P f r) n [0, 1, 4, 7, 8] [.lst o xs, fv, rv, .int .i64 n', .int .i64 i] [] s = idxT at_ B o xs fv rv n' i s ∧
      (∀ x, xs[i.toNat]? = some x → 0 ≤ i → dom x = true → at_ = true) ∧ (∀ x, xs[i.toNat]? = some x → dom x = true → B = bad s x)) :
    LoopC.Ok P cfg ⟨f, r, n, [0, 1, 4, 7, 8], idxF st isf dom bad, false⟩ := by
  refine ⟨h1, h2, idxμ, fun k xs s K Kp hl hF => ?_⟩
  obtain ⟨k, o, l, fv, rv, n', i, rfl, rfl, hs, hf⟩ := idxF_inv hF
  obtain ⟨at_, B, hR, hat, hB⟩ := hround k o l fv rv n' i s hs hf
  exact idx_round hR hat hB hF

/-- A function; a closure over the first cell. -/
def isFun (f : Nat) : V → Bool
  | .fn (.func g) [] [] => Nat.beq g f
  | _ => false
def isClo (f : Nat) : V → Bool
  | .fn (.func g) [] [.ptr 0 0] => Nat.beq g f
  | _ => false
theorem isFun_spec {f : Nat} {v : V} (h : isFun f v = true) : v = .fn (.func f) [] [] := by
  unfold isFun at h
  split at h
  · rw [Nat.eq_of_beq_eq_true h]
  · simp at h
theorem isClo_spec {f : Nat} {v : V} (h : isClo f v = true) : v = .fn (.func f) [] [.ptr 0 0] := by
  unfold isClo at h
  split at h
  · rw [Nat.eq_of_beq_eq_true h]
  · simp at h

/-- The state's heap is one cell that holds a function. -/
def stFn (t : TypeId) (f : Nat) : St → Bool
  | ⟨[.row t' [.fn (.func g) [] []]], _⟩ => Nat.beq t' t && Nat.beq g f
  | _ => false
theorem stFn_spec {t f : Nat} {s : St} (h : stFn t f s = true) : ∃ lv, s = ⟨[.row t [.fn (.func f) [] []]], lv⟩ := by
  unfold stFn at h
  split at h
  · simp only [Bool.and_eq_true] at h
    exact ⟨_, by rw [Nat.eq_of_beq_eq_true h.1, Nat.eq_of_beq_eq_true h.2]⟩
  · simp at h
def stAny : St → Bool := fun _ => true

theorem any_not {xs : List V} {p : V → Bool} : xs.any (fun v => !p v) = !(xs.all p) := by
  induction xs with
  | nil => rfl
  | cons x xs ih => simp [ih, Bool.not_and]

theorem intAt_of {xs : List V} {j : Nat} {k : IntKind} {n : Int} (h : xs[j]? = some (.int k n)) : intAt xs j = n := by simp [intAt, h]
theorem isIntAt_of {xs : List V} {j : Nat} {k : IntKind} {n : Int} (h : xs[j]? = some (.int k n)) : isIntAt k xs j = true := by simp [isIntAt, h]
theorem strAt_of {xs : List V} {j : Nat} {l : List UInt8} (h : xs[j]? = some (.str l)) : strAt xs j = l := by simp [strAt, h]
theorem isStrAt_of {xs : List V} {j : Nat} {l : List UInt8} (h : xs[j]? = some (.str l)) : isStrAt xs j = true := by simp [isStrAt, h]

/-- An element is a string; is a whole number of a kind. -/
def isStrB : V → Bool
  | .str _ => true
  | _ => false
def isIntB (k : IntKind) : V → Bool
  | .int k' _ => decide (k' = k)
  | _ => false

theorem isByteB_spec {x : V} (h : isByteB x = true) : ∃ n, x = .int .u8 n := by
  unfold isByteB at h
  split at h
  · exact ⟨_, rfl⟩
  · simp at h
theorem isStrB_spec {x : V} (h : isStrB x = true) : ∃ n, x = .str n := by
  unfold isStrB at h
  split at h
  · exact ⟨_, rfl⟩
  · simp at h
theorem isIntB_spec {k : IntKind} {x : V} (h : isIntB k x = true) : ∃ n, x = .int k n := by
  unfold isIntB at h
  split at h
  · simp only [decide_eq_true_eq] at h; subst h; exact ⟨_, rfl⟩
  · simp at h

theorem closedL_all {xs : List V} (h : ∀ x ∈ xs, closed x = true) : closedL xs = true := by
  induction xs with
  | nil => rfl
  | cons x xs ih => simp only [closedL, Bool.and_eq_true]; exact ⟨h x (by simp), ih fun y hy => h y (by simp [hy])⟩

theorem closedL_bytes {xs : List V} (h : xs.all isByteB = true) : closedL xs = true :=
  closedL_all fun x hx => by obtain ⟨n, rfl⟩ := isByteB_spec (List.all_eq_true.1 h x hx); rfl
theorem closedL_strs {xs : List V} (h : xs.all isStrB = true) : closedL xs = true :=
  closedL_all fun x hx => by obtain ⟨n, rfl⟩ := isStrB_spec (List.all_eq_true.1 h x hx); rfl
theorem closedL_ints {k : IntKind} {xs : List V} (h : xs.all (isIntB k) = true) : closedL xs = true :=
  closedL_all fun x hx => by obtain ⟨n, rfl⟩ := isIntB_spec (List.all_eq_true.1 h x hx); rfl

/-- A list that is handed over without the caller's heap. -/
def sealO : Own → Own
  | .live _ => .sealed
  | o => o
theorem strip_lst (o : Own) (xs : List V) : strip (.lst o xs) = .lst (sealO o) xs := by cases o <;> rfl
theorem closed_lst {o : Own} {xs : List V} (h : closedL xs = true) : closed (.lst (sealO o) xs) = true := by cases o <;> simpa [closed, sealO] using h
end Go.Ev
