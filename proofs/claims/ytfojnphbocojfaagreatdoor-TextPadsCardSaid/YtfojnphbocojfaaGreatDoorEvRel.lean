/- How abstract values and states stand to the model's: the relation, and that it is kept as memory grows. -/
import Derived.Test.YtfojnphbocojfaaGreatDoorEvCore
import Derived.Below
import Derived.Laws.Rows
set_option linter.all false
set_option linter.unusedVariables false
set_option linter.unusedSimpArgs false
namespace Go.Ev
open Go Go.RowKit

/-- What is known beside the abstract state: where its blocks lie; cells that nothing will turn; the slices of each stamp by their lengths. -/
structure Gh where
  loc : List Nat
  C : Nat → Nat → Option Value
  hist : Nat → Nat → Option (Value × Nat)

inductive VR (g : Gh) : V → Value → Prop where
  | any (v : Value) : VR g .any v
  | bool (b : Bool) : VR g (.bool b) (.bool b)
  | int (k : IntKind) (n : Int) : VR g (.int k n) (.int k n)
  | str (s : ByteArray) : VR g (.str s.data.toList) (.string s)
  | nilp : VR g .nilp (.pointer none)
  | ptr (id off b : Nat) : g.loc[id]? = some b → VR g (.ptr id off) (.pointer (some ⟨b, off, none⟩))
  | eptr (x : V) (b off : Nat) (c : Nat → Value) : (∀ (j : Nat) (y : V), x.cells[j]? = some y → g.C b (off + j) = some (c j)) →
      (∀ (j : Nat) (y : V), x.cells[j]? = some y → VR g y (c j)) → VR g (.eptr x) (.pointer (some ⟨b, off, none⟩))
  | lnil (o : Own) : (∀ s, o ≠ .live s) → VR g (.lst o []) (.slice none 0 0)
  | lst (o : Own) (xs : List V) (b off cap sz : Nat) (c : Nat → Nat → Value) : xs.length ≤ cap → (o = .exact → cap = xs.length) →
      (∀ s, o = .live s → g.hist s xs.length = some (.slice (some ⟨b, off, none⟩) xs.length cap, sz)) →
      (∀ (i : Nat) (x : V), xs[i]? = some x → x.cells.length = sz) →
      (∀ (i : Nat) (x : V) (j : Nat) (y : V), xs[i]? = some x → x.cells[j]? = some y → g.C b (off + i * sz + j) = some (c i j)) →
      (∀ (i : Nat) (x : V) (j : Nat) (y : V), xs[i]? = some x → x.cells[j]? = some y → VR g y (c i j)) → VR g (.lst o xs) (.slice (some ⟨b, off, none⟩) xs.length cap)
  | sl (id off len cap b off' cap' : Nat) : g.loc[id]? = some b → len ≤ cap → cap ≤ cap' → (0 < cap → off' = off) →
      VR g (.sl id off len cap) (.slice (some ⟨b, off', none⟩) len cap')
  | fn (f : Fn) (a c : List V) (a' c' : Array Value) : a.length = a'.size → c.length = c'.size →
      (∀ (i : Nat) (x : V) (y : Value), a[i]? = some x → a'[i]? = some y → VR g x y) → (∀ (i : Nat) (x : V) (y : Value), c[i]? = some x → c'[i]? = some y → VR g x y) →
      VR g (.fn f a c) (.func f a' c')
  | yield (id b : Nat) : g.loc[id]? = some b → VR g (.yield id) (.func (.yield b) #[] #[])
  | nilf : VR g .nilf .nilFunc
  | map (id b : Nat) : g.loc[id]? = some b → VR g (.map id) (.map (some b))
  | nilm : VR g .nilm (.map none)
  | iface (t : TypeId) (x : V) (y : Value) : VR g x y → VR g (.iface t x) (.iface t y)
  | nili : VR g .nili .nilIface
  | agg (cs : List V) (cs' : Array Value) : cs.length = cs'.size → (∀ (i : Nat) (x : V) (y : Value), cs[i]? = some x → cs'[i]? = some y → VR g x y) →
      VR g (.agg cs) (.agg cs')
  | tup (cs : List V) (cs' : Array Value) : cs.length = cs'.size → (∀ (i : Nat) (x : V) (y : Value), cs[i]? = some x → cs'[i]? = some y → VR g x y) →
      VR g (.tup cs) (.tuple cs')

/-- Lists of values, place by place. -/
def VRs (g : Gh) (xs : List V) (ys : Array Value) : Prop :=
  xs.length = ys.size ∧ ∀ (i : Nat) (x : V) (y : Value), xs[i]? = some x → ys[i]? = some y → VR g x y

def Ex.code : Ex → Code
  | .norm => .skip
  | .exit id => .exit id
  | .ret => .ret

def BR (g : Gh) : Blk → Obj → Prop
  | .lp st pend fn env ps asg body, .loop r => r.state = st ∧ r.pending = pend.map Ex.code ∧ (∀ e, pend = some e → e ≠ .norm) ∧ VRs g env r.tmps ∧ r.params.toList = ps ∧ r.assign = asg ∧ r.body = body
  | .df o, .deferred ds => ds = if o then some [] else none
  | .row t cells, .cells cs t' fz => t' = t ∧ cells.length ≤ cs.size ∧ (∀ (i : Nat) (x : V) (y : Value), cells[i]? = some x → cs[i]? = some y → VR g x y) ∧
      ∀ (o : Nat), o < cells.length → ¬ (fz.1 ≤ o ∧ o < fz.2)
  | .mp es, .map es' clock => clock = es.length ∧ es'.size = es.length ∧
      ∀ (i : Nat) (e : V × V) (e' : MapEntry), es[i]? = some e → es'[i]? = some e' → e'.born = i ∧ VR g e.1 e'.key ∧ VR g e.2 e'.val
  | .sit s pos, .stringIter ba pos' => ba.data.toList = s ∧ pos' = pos
  | .mit m since left last, .mapIter m' since' seen stepped => seen.back? = last ∧ since' = since ∧ stepped = since ∧ (∃ b, g.loc[m]? = some b ∧ m' = some b) ∧
      left = (List.range since).filter (fun j => !seen.contains j)
  | _, _ => False

/-- What is known of package-level variables: it lies below a place, and stays. -/
class Glob where
  low : Nat
  I : World → Prop
  stays : ∀ {base : Nat} {w w' : World}, low ≤ base → Below base w w' → I w → I w'

variable [Glob]

structure WR (base : Nat) (g : Gh) (s : St) (w : World) : Prop where
  len : g.loc.length = s.heap.length
  inj : ∀ (i j b : Nat), g.loc[i]? = some b → g.loc[j]? = some b → i = j
  low : ∀ (i b : Nat), g.loc[i]? = some b → base ≤ b
  room : base ≤ w.heap.size
  blk : ∀ (i : Nat) (k : Blk) (b : Nat), s.heap[i]? = some k → g.loc[i]? = some b → ∃ o, w.heap[b]? = some o ∧ BR g k o
  imm : ∀ b o v, g.C b o = some v → w.cell? ⟨b, o, none⟩ = some v ∧ ∀ (i : Nat), g.loc[i]? ≠ some b
  own : ∀ (i n sz : Nat), s.live[i]? = some (n, sz) → ∃ b off cap cs t fz, g.hist i n = some (.slice (some ⟨b, off, none⟩) n cap, sz) ∧ base ≤ b ∧
      (∀ (j : Nat), g.loc[j]? ≠ some b) ∧ w.heap[b]? = some (.cells cs t fz) ∧ cs.size = off + cap * sz ∧ n ≤ cap ∧ (∀ (o : Nat), o < cs.size → ¬ (fz.1 ≤ o ∧ o < fz.2)) ∧
      (∀ o, off + n * sz ≤ o → g.C b o = none)
  past : ∀ (i n : Nat), (∀ (m sz : Nat), s.live[i]? = some (m, sz) → m < n) → g.hist i n = none
  apart : ∀ (i j n m sz sz' b o c o' c' : Nat), s.live[i]? = some (n, sz) → s.live[j]? = some (m, sz') →
      g.hist i n = some (.slice (some ⟨b, o, none⟩) n c, sz) → g.hist j m = some (.slice (some ⟨b, o', none⟩) m c', sz') → i = j
  glob : Glob.low ≤ base ∧ Glob.I w

theorem WR.keeps {base : Nat} {g : Gh} {s : St} {w w' : World} (h : WR base g s w) (hb : Below base w w') : Glob.low ≤ base ∧ Glob.I w' := ⟨h.glob.1, Glob.stays h.glob.1 hb h.glob.2⟩

/-- What a step does to what is known, and to memory. -/
structure Grow (base : Nat) (g g' : Gh) (w w' : World) : Prop where
  loc : ∀ (i b : Nat), g.loc[i]? = some b → g'.loc[i]? = some b
  C : ∀ b o v, g.C b o = some v → g'.C b o = some v
  new : ∀ b o v, g'.C b o = some v → g.C b o = some v ∨ base ≤ b
  hist : ∀ i n v, g.hist i n = some v → g'.hist i n = some v
  below : Below base w w'

theorem Grow.refl (base : Nat) (g : Gh) (w : World) : Grow base g g w w :=
  ⟨fun _ _ h => h, fun _ _ _ h => h, fun _ _ _ h => .inl h, fun _ _ _ h => h, Below.refl _ _⟩

theorem Grow.trans {base : Nat} {g g' g'' : Gh} {w w' w'' : World} (h : Grow base g g' w w') (k : Grow base g' g'' w' w'') : Grow base g g'' w w'' :=
  ⟨fun i b e => k.loc i b (h.loc i b e), fun b o v e => k.C b o v (h.C b o v e),
   fun b o v e => (k.new b o v e).elim (fun e => h.new b o v e) .inr, fun i n v e => k.hist i n v (h.hist i n v e), h.below.trans k.below⟩

/-- The part of 'Grow' that values look at. -/
structure Sub (g g' : Gh) : Prop where
  loc : ∀ (i b : Nat), g.loc[i]? = some b → g'.loc[i]? = some b
  C : ∀ b o v, g.C b o = some v → g'.C b o = some v
  hist : ∀ i n v, g.hist i n = some v → g'.hist i n = some v

theorem Sub.refl (g : Gh) : Sub g g := ⟨fun _ _ h => h, fun _ _ _ h => h, fun _ _ _ h => h⟩

theorem Grow.sub {base : Nat} {g g' : Gh} {w w' : World} (h : Grow base g g' w w') : Sub g g' := ⟨h.loc, h.C, h.hist⟩

theorem VR.mono {g g' : Gh} (s : Sub g g') {x : V} {y : Value} (h : VR g x y) : VR g' x y := by
  induction h with
  | any v => exact .any v
  | bool b => exact .bool b
  | int k n => exact .int k n
  | str s => exact .str s
  | nilp => exact .nilp
  | ptr id off b h => exact .ptr id off b (s.loc _ _ h)
  | eptr x b off c h1 h2 ih => exact .eptr x b off c (fun j y h => s.C _ _ _ (h1 j y h)) (fun j y h => ih j y h)
  | lnil o h => exact .lnil o h
  | lst o xs b off cap sz c h1 h2 h3 h4 h5 h6 ih =>
    exact .lst o xs b off cap sz c h1 h2 (fun i h => s.hist _ _ _ (h3 i h)) h4 (fun i x j y a b => s.C _ _ _ (h5 i x j y a b)) (fun i x j y a b => ih i x j y a b)
  | sl id off len cap b off' cap' h1 h0 h2 h3 => exact .sl id off len cap b off' cap' (s.loc _ _ h1) h0 h2 h3
  | fn f a c a' c' h1 h2 h3 h4 ih1 ih2 => exact .fn f a c a' c' h1 h2 ih1 ih2
  | yield id b h => exact .yield id b (s.loc _ _ h)
  | nilf => exact .nilf
  | map id b h => exact .map id b (s.loc _ _ h)
  | nilm => exact .nilm
  | iface t x y h ih => exact .iface t x y ih
  | nili => exact .nili
  | agg cs cs' h1 h2 ih => exact .agg cs cs' h1 ih
  | tup cs cs' h1 h2 ih => exact .tup cs cs' h1 ih

theorem VRs.mono {g g' : Gh} (s : Sub g g') {xs : List V} {ys : Array Value} (h : VRs g xs ys) : VRs g' xs ys :=
  ⟨h.1, fun i x y a b => (h.2 i x y a b).mono s⟩

theorem BR.mono {g g' : Gh} (s : Sub g g') {k : Blk} {o : Obj} (h : BR g k o) : BR g' k o := by
  cases k <;> cases o <;> simp only [BR] at h ⊢
  case lp.loop => exact ⟨h.1, h.2.1, h.2.2.1, h.2.2.2.1.mono s, h.2.2.2.2⟩
  case df.deferred => exact h
  · exact ⟨h.1, h.2.1, fun i x y a b => (h.2.2.1 i x y a b).mono s, h.2.2.2⟩
  · exact ⟨h.1, h.2.1, fun i e e' a b => let ⟨p, q, r⟩ := h.2.2 i e e' a b; ⟨p, q.mono s, r.mono s⟩⟩
  · exact h
  · obtain ⟨z, a, b, ⟨k, c, d⟩, e⟩ := h
    exact ⟨z, a, b, ⟨k, s.loc _ _ c, d⟩, e⟩

/-! ### places -/
theorem VRs.get {g : Gh} {xs : List V} {ys : Array Value} (h : VRs g xs ys) (i : Nat) : VR g (xs.getD i .any) (ys.getD i undef) := by
  by_cases hi : i < xs.length
  · have h1 : xs[i]? = some xs[i] := by simp [hi]
    have hi' : i < ys.size := h.1 ▸ hi
    have h2 : ys[i]? = some ys[i] := by simp [hi']
    have := h.2 i _ _ h1 h2
    simpa [List.getD_eq_getElem?_getD, Array.getD_eq_getD_getElem?, h1, h2] using this
  · have h1 : xs[i]? = none := by simp; omega
    simp only [List.getD_eq_getElem?_getD, h1, Option.getD_none]
    exact .any _

theorem VRs.set {g : Gh} {xs : List V} {ys : Array Value} (h : VRs g xs ys) (i : Nat) {x : V} {y : Value} (hv : VR g x y) :
    VRs g (xs.set i x) (ys.setIfInBounds i y) := by
  refine ⟨by simp [h.1], fun j a b ha hb => ?_⟩
  rw [List.getElem?_set] at ha
  rw [Array.getElem?_setIfInBounds] at hb
  by_cases e : i = j
  · subst e
    simp only [if_true] at ha hb
    split at ha <;> split at hb <;> simp_all
  · rw [if_neg e] at ha hb
    exact h.2 j a b ha hb

theorem VRs.append {g : Gh} {xs xs' : List V} {ys ys' : Array Value} (h : VRs g xs ys) (h' : VRs g xs' ys') : VRs g (xs ++ xs') (ys ++ ys') := by
  refine ⟨by simp [h.1, h'.1], fun j a b ha hb => ?_⟩
  rw [List.getElem?_append] at ha
  rw [Array.getElem?_append, ← h.1] at hb
  split at ha <;> rename_i e
  · rw [if_pos e] at hb; exact h.2 j a b ha hb
  · rw [if_neg e] at hb; exact h'.2 _ a b ha hb

theorem VRs.replicate_any {g : Gh} (n : Nat) (v : Value) : VRs g (List.replicate n .any) (Array.replicate n v) := by
  refine ⟨by simp, fun j a b ha hb => ?_⟩
  rw [List.getElem?_replicate] at ha
  split at ha
  · simp only [Option.some.injEq] at ha; subst ha; exact .any _
  · simp at ha

theorem VR.undef (g : Gh) : VR g (.tup []) undef := .tup [] #[] rfl (fun i x y h => by simp at h)

theorem VRs.nil {g : Gh} : VRs g [] #[] := ⟨rfl, fun _ _ _ h => by simp at h⟩

theorem VRs.cons {g : Gh} {x : V} {y : Value} {xs : List V} {ys : List Value} (h : VR g x y) (hs : VRs g xs ys.toArray) : VRs g (x :: xs) (y :: ys).toArray := by
  refine ⟨by simpa using hs.1, fun j a b ha hb => ?_⟩
  cases j with
  | zero => simp at ha hb; subst ha; subst hb; exact h
  | succ j => exact hs.2 j a b (by simpa using ha) (by simpa using hb)

theorem VRs.singleton {g : Gh} {x : V} {y : Value} (h : VR g x y) : VRs g [x] #[y] := VRs.cons h VRs.nil

theorem VR.cells {g : Gh} {x : V} {y : Value} (h : VR g x y) (hx : goodB x = true) : VRs g x.cells y.cells := by
  cases h with
  | agg cs cs' h1 h2 => exact ⟨h1, h2⟩
  | any v => simp [goodB, cellB] at hx
  | bool b => exact VRs.singleton (.bool b)
  | int k n => exact VRs.singleton (.int k n)
  | str s => exact VRs.singleton (.str s)
  | nilp => exact VRs.singleton .nilp
  | ptr id off b h => exact VRs.singleton (.ptr id off b h)
  | eptr x b off c h1 h2 => exact VRs.singleton (.eptr x b off c h1 h2)
  | lnil o h => exact VRs.singleton (.lnil o h)
  | lst o xs b off cap sz c h1 h2 h3 h4 h5 h6 => exact VRs.singleton (.lst o xs b off cap sz c h1 h2 h3 h4 h5 h6)
  | sl id off len cap b off' cap' h1 h0 h2 h3 => exact VRs.singleton (.sl id off len cap b off' cap' h1 h0 h2 h3)
  | fn f a c a' c' h1 h2 h3 h4 => exact VRs.singleton (.fn f a c a' c' h1 h2 h3 h4)
  | yield id b h => exact VRs.singleton (.yield id b h)
  | nilf => exact VRs.singleton .nilf
  | map id b h => exact VRs.singleton (.map id b h)
  | nilm => exact VRs.singleton .nilm
  | iface t x y h => exact VRs.singleton (.iface t x y h)
  | nili => exact VRs.singleton .nili
  | tup cs cs' h1 h2 => simp [goodB, cellB] at hx

/-- A cell of a good value is the value of one cell. -/
theorem VR.oneCell {g : Gh} {x : V} {y : Value} (h : VR g x y) (hx : cellB x = true) : y.oneCell' = true ∧ y.cells = #[y] := by
  cases h <;> simp_all [cellB, Value.oneCell', Value.cells]

theorem absCell_rel (g : Gh) (v : Value) : VR g (absCell v) v := by
  unfold absCell
  split <;> first | exact .any _ | constructor | skip
  exact fun s => by simp

theorem absV_rel (g : Gh) (v : Value) : VR g (absV v) v := by
  unfold absV
  split
  · rename_i cs
    refine .agg _ _ (by simp) fun i x y hx hy => ?_
    simp only [List.getElem?_map, Array.getElem?_toList] at hx
    rw [hy] at hx
    simp only [Option.map_some, Option.some.injEq] at hx
    subst hx
    exact absCell_rel g y
  · exact absCell_rel g v

theorem absV_cells (g : Gh) (v : Value) : VRs g (absV v).cells v.cells := by
  unfold absV
  split
  · rename_i cs
    refine ⟨by simp [V.cells, Value.cells], fun i x y hx hy => ?_⟩
    simp only [V.cells, Value.cells, List.getElem?_map, Array.getElem?_toList] at hx hy
    rw [hy] at hx
    simp only [Option.map_some, Option.some.injEq] at hx
    subst hx
    exact absCell_rel g y
  · rename_i h
    have h1 : (absCell v).cells = [absCell v] := by unfold absCell; split <;> rfl
    have h2 : v.cells = #[v] := by cases v <;> first | rfl | (exact absurd rfl (h _))
    rw [h1, h2]
    exact VRs.singleton (absCell_rel g v)

theorem evalO_rel {g : Gh} {env : Env} {a : Act} (h : VRs g env a.tmps) (x : Operand) : VR g (evalO env x) (a.eval x) := by
  cases x with
  | tmp t => exact h.get t
  | const v => exact absV_rel g v
  | global n => exact .any _
  | func f => exact .fn _ _ _ _ _ rfl rfl (fun i x y h => by simp at h) (fun i x y h => by simp at h)

theorem putE_rel {g : Gh} {env : Env} {a : Act} (h : VRs g env a.tmps) (dst : Option Tmp) {x : V} {y : Value} (hv : VR g x y) :
    VRs g (putE env dst x) (a.put dst y).tmps := by
  cases dst with
  | none => exact h
  | some d => exact h.set d hv

theorem put_defers (a : Act) (dst : Option Tmp) (y : Value) : (a.put dst y).defers = a.defers := by cases dst <;> rfl

end Go.Ev
