/- Steps on memory, and the relation behind them. -/
import Derived.Test.YtfojnphbocojfaaGreatDoorEvPure4
set_option linter.all false
set_option linter.unusedVariables false
set_option linter.unusedSimpArgs false
namespace Go.Ev
open Go Go.RowKit
variable [Glob]

/-- A block turned. -/
def setBlk (w : World) (b : Nat) (o : Obj) : World := { w with heap := w.heap.setIfInBounds b o }

theorem setBlk_get (w : World) (b : Nat) (o : Obj) (k : Nat) : (setBlk w b o).heap[k]? = if b = k ∧ b < w.heap.size then some o else w.heap[k]? := by
  unfold setBlk
  simp only [Array.getElem?_setIfInBounds]
  by_cases e : b = k
  · subst e
    by_cases h : b < w.heap.size <;> simp [h]
  · simp [e]

theorem setBlk_size (w : World) (b : Nat) (o : Obj) : (setBlk w b o).heap.size = w.heap.size := by simp [setBlk]

theorem lt_of_get {w : World} {b : Nat} {o : Obj} (h : w.heap[b]? = some o) : b < w.heap.size := by
  rcases Nat.lt_or_ge b w.heap.size with h' | h'
  · exact h'
  · simp [Array.getElem?_eq_none h'] at h

theorem below_setBlk {base : Nat} (w : World) {b : Nat} (o : Obj) (h : base ≤ b) : Below base w (setBlk w b o) :=
  ⟨rfl, rfl, rfl, by rw [setBlk_size]; exact Nat.le_refl _, fun k hk => by rw [setBlk_get, if_neg (by omega)]⟩

theorem setCell_eq (w : World) (b off : Nat) (v : Value) (cs : Array Value) (t : TypeId) (fz : Nat × Nat) (h : w.heap[b]? = some (.cells cs t fz)) :
    w.setCell ⟨b, off, none⟩ v = setBlk w b (.cells (cs.setIfInBounds off v) t fz) := by
  have hb := lt_of_get h
  have hb' : w.heap[b] = .cells cs t fz := by simpa [hb] using h
  unfold World.setCell setBlk
  congr 1
  apply Array.ext_getElem?
  intro i
  rw [Array.getElem?_modify, Array.getElem?_setIfInBounds]
  by_cases e : b = i
  · subst e; simp [hb, hb']
  · simp [e]

theorem setBlk_setBlk (w : World) (b : Nat) (o o' : Obj) : setBlk (setBlk w b o) b o' = setBlk w b o' := by
  unfold setBlk; simp

theorem cell_of (w : World) (b off : Nat) (cs : Array Value) (t : TypeId) (fz : Nat × Nat) (h : w.heap[b]? = some (.cells cs t fz)) : w.cell? ⟨b, off, none⟩ = cs[off]? := by
  simp [World.cell?, h]

theorem frozen_of (w : World) (b off : Nat) (cs : Array Value) (t : TypeId) (fz : Nat × Nat) (h : w.heap[b]? = some (.cells cs t fz)) :
    w.frozen? ⟨b, off, none⟩ = (decide (fz.1 ≤ off) && decide (off < fz.2)) := by
  simp [World.frozen?, h]

def setAllC (cs : Array Value) (off : Nat) : List Value → Array Value
  | [] => cs
  | v :: r => setAllC (cs.setIfInBounds off v) (off + 1) r

theorem setAllC_size (vs : List Value) : ∀ (cs : Array Value) (off : Nat), (setAllC cs off vs).size = cs.size := by
  induction vs with
  | nil => intro cs off; rfl
  | cons v vs ih => intro cs off; rw [setAllC, ih]; simp

theorem setAllC_rel {g : Gh} : ∀ {vs : List V} {cells : List V} {cs : Array Value} {ys : List Value} (off : Nat), (∀ (i : Nat) (x : V) (y : Value), cells[i]? = some x → cs[i]? = some y → VR g x y) → cells.length ≤ cs.size →
    VRs g vs ys.toArray → ∀ (i : Nat) (x : V) (y : Value), (setAll cells off vs)[i]? = some x → (setAllC cs off ys)[i]? = some y → VR g x y
  | [], cells, cs, ys, off, h, _, hv => by
    have : ys = [] := by have := hv.1; simp at this; exact List.eq_nil_of_length_eq_zero this.symm
    subst this; exact h
  | v :: vs, cells, cs, [], off, h, _, hv => by have := hv.1; simp at this
  | v :: vs, cells, cs, y :: ys, off, h, hl, hv => by
    have h0 : VR g v y := hv.2 0 v y (by simp) (by simp)
    have hr : VRs g vs ys.toArray := ⟨by have := hv.1; simpa using this, fun i a b ha hb => hv.2 (i + 1) a b (by simpa using ha) (by simpa using hb)⟩
    refine setAllC_rel (off + 1) (fun i x y hx hy => ?_) (by simpa using hl) hr
    rw [List.getElem?_set] at hx
    rw [Array.getElem?_setIfInBounds] at hy
    by_cases e : off = i
    · subst e
      simp only [if_true] at hx hy
      split at hx <;> split at hy <;> simp_all
    · rw [if_neg e] at hx hy
      exact h i x y hx hy

theorem storeCells_ok {P : Program} (b : Nat) (t : TypeId) (fz : Nat × Nat) (off : Nat) : ∀ (vs : List Value) (i : Nat) (w : World) (cs : Array Value), w.heap[b]? = some (.cells cs t fz) →
    off + i + vs.length ≤ cs.size → (∀ v ∈ vs, v.oneCell' = true) → (∀ o, off + i ≤ o → o < off + i + vs.length → ¬ (fz.1 ≤ o ∧ o < fz.2)) →
    (storeCells ⟨b, off, none⟩ vs i).run P w = .ok () (setBlk w b (.cells (setAllC cs (off + i) vs) t fz))
  | [], i, w, cs, h, _, _, _ => by
    simp only [storeCells, Sem.run_pure, setAllC]
    congr 1
    have hb := lt_of_get h
    have hb' : w.heap[b] = .cells cs t fz := by simpa [hb] using h
    unfold setBlk
    have : w.heap.setIfInBounds b (.cells cs t fz) = w.heap := by
      apply Array.ext_getElem?
      intro k
      rw [Array.getElem?_setIfInBounds]
      by_cases e : b = k
      · subst e; simp [hb, hb']
      · simp [e]
    rw [this]
  | v :: vs, i, w, cs, h, hl, hone, hf => by
    have hlt : off + i < cs.size := by simp at hl; omega
    simp only [storeCells, Sem.run_bind]
    rw [run_store P w _ v _ (hone v (by simp)), add_none, cell_of w b _ cs t fz h]
    have : cs[off + i]? = some cs[off + i] := by simp [hlt]
    rw [this]
    simp only
    have hnf : w.frozen? ⟨b, off + i, none⟩ = false := by
      rw [frozen_of w b _ cs t fz h]
      have := hf (off + i) (Nat.le_refl _) (by simp)
      simp only [Bool.and_eq_false_imp, decide_eq_true_eq, decide_eq_false_iff_not]
      intro h1 h2; exact this ⟨h1, h2⟩
    rw [hnf]
    simp only [Bool.false_eq_true, if_false, Result.andThen_ok]
    rw [setCell_eq w b _ v cs t fz h]
    have hb := lt_of_get h
    have := storeCells_ok (P := P) b t fz off vs (i + 1) (setBlk w b (.cells (cs.setIfInBounds (off + i) v) t fz)) (cs.setIfInBounds (off + i) v)
      (by rw [setBlk_get, if_pos ⟨rfl, hb⟩]) (by simp at hl; simp; omega) (fun v hv => hone v (by simp [hv])) (fun o h1 h2 => hf o (by omega) (by simp; omega))
    rw [this, setBlk_setBlk]
    simp only [setAllC]
    rfl

/-! ### a new block -/
def Gh.addLoc (g : Gh) (b : Nat) : Gh := { g with loc := g.loc ++ [b] }

theorem Gh.sub_addLoc (g : Gh) (b : Nat) : Sub g (g.addLoc b) :=
  ⟨fun i c h => by
    have hi : i < g.loc.length := by
      rcases Nat.lt_or_ge i g.loc.length with h' | h'
      · exact h'
      · simp [List.getElem?_eq_none h'] at h
    simp only [Gh.addLoc]
    rw [List.getElem?_append_left hi]; exact h, fun _ _ _ h => h, fun _ _ _ h => h⟩

theorem addLoc_get {g : Gh} {b i c : Nat} (h : (g.addLoc b).loc[i]? = some c) : g.loc[i]? = some c ∨ (i = g.loc.length ∧ c = b) := by
  simp only [Gh.addLoc] at h
  rw [List.getElem?_append] at h
  split at h
  · exact .inl h
  · rename_i hn
    have : i - g.loc.length = 0 := by
      rcases Nat.eq_zero_or_pos (i - g.loc.length) with h' | h'
      · exact h'
      · rw [List.getElem?_eq_none (by simp; omega)] at h; simp at h
    rw [this] at h
    simp at h
    exact .inr ⟨by omega, h.symm⟩

section
variable {base : Nat} {g : Gh} {s : St} {w : World}

theorem WR.loc_lt (h : WR base g s w) {i b : Nat} (hb : g.loc[i]? = some b) : b < w.heap.size := by
  have hi : i < s.heap.length := by
    rw [← h.len]
    rcases Nat.lt_or_ge i g.loc.length with h' | h'
    · exact h'
    · simp [List.getElem?_eq_none h'] at hb
  obtain ⟨o, ho, _⟩ := h.blk i _ b (List.getElem?_eq_getElem hi) hb
  exact lt_of_get ho

theorem WR.imm_lt (h : WR base g s w) {b o : Nat} {v : Value} (hc : g.C b o = some v) : b < w.heap.size :=
  World.block_lt_of_cell? _ _ (h.imm b o v hc).1

theorem alloc_get (w : World) (o : Obj) (k : Nat) : (w.alloc o).heap[k]? = if k = w.heap.size then some o else w.heap[k]? := by
  show (w.heap.push o)[k]? = _
  rw [Array.getElem?_push]

theorem alloc_cell {w : World} (o : Obj) {a : Addr} {v : Value} (h : w.cell? a = some v) : (w.alloc o).cell? a = some v := by
  rw [World.cell?_alloc_lt _ _ _ (World.block_lt_of_cell? _ _ h)]; exact h

/-- A new block of the abstract heap. -/
theorem WR.alloc (h : WR base g s w) {k : Blk} {o : Obj} (hk : BR (g.addLoc w.heap.size) k o) :
    WR base (g.addLoc w.heap.size) { s with heap := s.heap ++ [k] } (w.alloc o) ∧ Grow base g (g.addLoc w.heap.size) w (w.alloc o) := by
  have hsub := g.sub_addLoc w.heap.size
  refine ⟨⟨?_, ?_, ?_, ?_, ?_, ?_, ?_, ?_, ?_, h.keeps ((Below.refl _ _).alloc h.room o)⟩, ?_⟩
  · simp [Gh.addLoc, h.len]
  · intro i j b hi hj
    rcases addLoc_get hi with hi | ⟨rfl, rfl⟩ <;> rcases addLoc_get hj with hj | ⟨rfl, e⟩
    · exact h.inj i j b hi hj
    · subst e; have := h.loc_lt hi; omega
    · have := h.loc_lt hj; omega
    · rfl
  · intro i b hi
    rcases addLoc_get hi with hi | ⟨rfl, rfl⟩
    · exact h.low i b hi
    · exact h.room
  · have := h.room; simp; omega
  · intro i k' b hk' hb
    rcases addLoc_get hb with hb | ⟨rfl, rfl⟩
    · have hlt := h.loc_lt hb
      have hi : i < s.heap.length := by
        rw [← h.len]
        rcases Nat.lt_or_ge i g.loc.length with h' | h'
        · exact h'
        · simp [List.getElem?_eq_none h'] at hb
      rw [List.getElem?_append_left hi] at hk'
      obtain ⟨o', ho', hr⟩ := h.blk i k' b hk' hb
      exact ⟨o', by rw [alloc_get, if_neg (by omega)]; exact ho', hr.mono hsub⟩
    · rw [h.len, List.getElem?_append_right (Nat.le_refl _)] at hk'
      simp at hk'
      subst hk'
      exact ⟨o, by rw [alloc_get, if_pos rfl], hk⟩
  · intro b off v hc
    have h0 := h.imm b off v hc
    refine ⟨alloc_cell o h0.1, fun i hi => ?_⟩
    rcases addLoc_get hi with hi | ⟨rfl, rfl⟩
    · exact h0.2 i hi
    · have := World.block_lt_of_cell? _ _ h0.1; simp at this
  · intro i n sz hl
    obtain ⟨b, off, cap, cs, t, fz, h1, h2, h3, h4, h5, h6, h7, h8⟩ := h.own i n sz hl
    have hlt := lt_of_get h4
    refine ⟨b, off, cap, cs, t, fz, h1, h2, fun j hj => ?_, by rw [alloc_get, if_neg (by omega)]; exact h4, h5, h6, h7, h8⟩
    rcases addLoc_get hj with hj | ⟨rfl, rfl⟩
    · exact h3 j hj
    · omega
  · exact h.past
  · exact h.apart
  · exact ⟨hsub.loc, hsub.C, fun b o v e => .inl e, hsub.hist, (Below.refl _ _).alloc h.room o⟩

/-- A new row of cells, the first m of which nothing will turn. -/
def Gh.claim (g : Gh) (b : Nat) (cs : Array Value) (m : Nat) : Gh := { g with C := fun k o => if k = b then (if o < m then cs[o]? else none) else g.C k o }

theorem WR.claim (h : WR base g s w) (cs : Array Value) (t : TypeId) (fz : Nat × Nat) (m : Nat) :
    WR base (g.claim w.heap.size cs m) s (w.alloc (.cells cs t fz)) ∧ Grow base g (g.claim w.heap.size cs m) w (w.alloc (.cells cs t fz)) := by
  have hC : ∀ b o v, g.C b o = some v → (g.claim w.heap.size cs m).C b o = some v := by
    intro b o v hc
    have := h.imm_lt hc
    simp only [Gh.claim]
    rw [if_neg (by omega)]; exact hc
  have hsub : Sub g (g.claim w.heap.size cs m) := ⟨fun _ _ h => h, hC, fun _ _ _ h => h⟩
  refine ⟨⟨h.len, h.inj, h.low, ?_, ?_, ?_, ?_, h.past, h.apart, h.keeps ((Below.refl _ _).alloc h.room _)⟩, ?_⟩
  · have := h.room; simp; omega
  · intro i k b hk hb
    have hlt := h.loc_lt hb
    obtain ⟨o', ho', hr⟩ := h.blk i k b hk hb
    exact ⟨o', by rw [alloc_get, if_neg (by omega)]; exact ho', hr.mono hsub⟩
  · intro b off v hc
    simp only [Gh.claim] at hc
    by_cases e : b = w.heap.size
    · rw [if_pos e] at hc
      split at hc
      · subst e
        refine ⟨?_, fun i hi => ?_⟩
        · rw [cell_of _ _ _ cs t fz (by rw [alloc_get, if_pos rfl])]; exact hc
        · have := h.loc_lt hi; omega
      · simp at hc
    · rw [if_neg e] at hc
      have h0 := h.imm b off v hc
      exact ⟨alloc_cell _ h0.1, h0.2⟩
  · intro i n sz hl
    obtain ⟨b, off, cap, cs', t', fz', h1, h2, h3, h4, h5, h6, h7, h8⟩ := h.own i n sz hl
    have hlt := lt_of_get h4
    refine ⟨b, off, cap, cs', t', fz', h1, h2, h3, by rw [alloc_get, if_neg (by omega)]; exact h4, h5, h6, h7, fun o ho => ?_⟩
    simp only [Gh.claim]
    rw [if_neg (by omega)]
    exact h8 o ho
  · refine ⟨fun _ _ h => h, hC, fun b o v e => ?_, fun _ _ _ h => h, (Below.refl _ _).alloc h.room _⟩
    simp only [Gh.claim] at e
    by_cases e' : b = w.heap.size
    · exact .inr (by have := h.room; omega)
    · rw [if_neg e'] at e; exact .inl e

/-- A block of the abstract heap turned. -/
theorem WR.turn (h : WR base g s w) {id b : Nat} (hb : g.loc[id]? = some b) {k : Blk} {o : Obj} (hk : BR g k o) :
    WR base g { s with heap := s.heap.set id k } (setBlk w b o) ∧ Grow base g g w (setBlk w b o) := by
  have hlt := h.loc_lt hb
  refine ⟨⟨by simp [h.len], h.inj, h.low, by rw [setBlk_size]; exact h.room, ?_, ?_, ?_, h.past, h.apart, h.keeps (below_setBlk w _ (h.low _ _ hb))⟩, ?_⟩
  · intro i k' c hk' hc
    rw [List.getElem?_set] at hk'
    by_cases e : id = i
    · subst e
      rw [hb] at hc
      simp only [Option.some.injEq] at hc
      subst hc
      have : id < s.heap.length := by
        rw [← h.len]
        rcases Nat.lt_or_ge id g.loc.length with h' | h'
        · exact h'
        · simp [List.getElem?_eq_none h'] at hb
      simp [this] at hk'
      subst hk'
      exact ⟨o, by rw [setBlk_get, if_pos ⟨rfl, hlt⟩], hk⟩
    · rw [if_neg e] at hk'
      obtain ⟨o', ho', hr⟩ := h.blk i k' c hk' hc
      refine ⟨o', ?_, hr⟩
      rw [setBlk_get, if_neg]
      · exact ho'
      · rintro ⟨rfl, _⟩; exact e (h.inj _ _ _ hb hc)
  · intro b' off v hc
    have h0 := h.imm b' off v hc
    refine ⟨?_, h0.2⟩
    rw [World.cell?_of_block (w := w)]
    · exact h0.1
    · rw [setBlk_get, if_neg]
      rintro ⟨rfl, _⟩
      exact h0.2 id hb
  · intro i n sz hl
    obtain ⟨b', off, cap, cs', t', fz', h1, h2, h3, h4, h5, h6, h7, h8⟩ := h.own i n sz hl
    refine ⟨b', off, cap, cs', t', fz', h1, h2, h3, ?_, h5, h6, h7, h8⟩
    rw [setBlk_get, if_neg]
    · exact h4
    · rintro ⟨rfl, _⟩; exact h3 id hb
  · exact ⟨fun _ _ h => h, fun _ _ _ h => h, fun _ _ _ e => .inl e, fun _ _ _ h => h, below_setBlk w o (h.low _ _ hb)⟩

/-- A draw. -/
theorem WR.drew (h : WR base g s w) : WR base g s w.drew ∧ Grow base g g w w.drew :=
  ⟨⟨h.len, h.inj, h.low, h.room, h.blk, h.imm, h.own, h.past, h.apart, h.keeps ((Below.refl _ _).drew)⟩,
   ⟨fun _ _ h => h, fun _ _ _ h => h, fun _ _ _ e => .inl e, fun _ _ _ h => h, (Below.refl _ _).drew⟩⟩

end
end Go.Ev
