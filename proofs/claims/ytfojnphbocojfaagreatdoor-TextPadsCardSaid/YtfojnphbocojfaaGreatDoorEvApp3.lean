/- append, the law. -/
import Derived.Test.YtfojnphbocojfaaGreatDoorEvApp2
set_option linter.all false
set_option linter.unusedVariables false
set_option linter.unusedSimpArgs false
namespace Go.Ev
open Go Go.RowKit
variable [Glob]

section
variable {P : Program}

theorem slicey_spec {u : TypeId} (h : sliceyB P u = true) : (∃ e, P.underlying u = some (.slice e)) ∨ P.underlying u = some .string := by
  unfold sliceyB at h
  split at h
  · rename_i e hu; exact .inl ⟨_, hu⟩
  · rename_i hu; exact .inr hu
  · simp at h

section
variable {t u e ty : TypeId} {i : TypeInfo} {ts : Array TypeId} {cs : Array Value} {bs : Option Addr} {sLen sCap m : Nat} {cy : Value} {w : World}

theorem run_app_in (h0 : ts[0]? = some t) (h1 : ts[1]? = some u) (c0 : cs[0]? = some (.slice bs sLen sCap)) (c1 : cs[1]? = some cy)
    (ht : P.underlying t = some (.slice e)) (hu : sliceyB P u = true) (hi : P.info? e = some i) {news : Array Value}
    (hl : (Builtin.lenOf cy).run P w = .ok m w) (hf : (Builtin.firstCells i.size m cy).run P w = .ok news w) (hroom : sLen + m ≤ sCap) {w' : World}
    (hst : match bs with | some a => (storeCells (a.add (sLen * i.size)) news.toList).run P w = .ok () w' | none => w' = w) :
    (Builtin.append_ ts ty cs).run P w = .ok (.slice bs (sLen + m) sCap) w' := by
  rcases slicey_spec hu with ⟨e', hd⟩ | hd <;>
  cases bs with
  | none =>
    simp only at hst
    subst hst
    simp [Builtin.append_, h0, h1, c0, c1, run_underlying ht, run_underlying hd, sizeOf, typeInfo, hi, hl, hf, hroom]
  | some a =>
    simp only at hst
    simp [Builtin.append_, h0, h1, c0, c1, run_underlying ht, run_underlying hd, sizeOf, typeInfo, hi, hl, hf, hroom, hst]

theorem run_app_out (h0 : ts[0]? = some t) (h1 : ts[1]? = some u) (c0 : cs[0]? = some (.slice bs sLen sCap)) (c1 : cs[1]? = some cy)
    (ht : P.underlying t = some (.slice e)) (hu : sliceyB P u = true) (hi : P.info? e = some i) {z : Value} (hz : i.zero = some z) {news olds : Array Value}
    (hl : (Builtin.lenOf cy).run P w = .ok m w) (hf : (Builtin.firstCells i.size m cy).run P w.drew = .ok news w.drew)
    (ho : (Builtin.firstCells i.size sLen (.slice bs sLen sCap)).run P w.drew = .ok olds w.drew) (hroom : sCap < sLen + m)
    (hb : (sLen + m) * i.bytes ≤ 35184372088832) (h63 : sLen + m ≤ 35184372088832) :
    (Builtin.append_ ts ty cs).run P w = .ok (.slice (some ⟨w.heap.size, 0, none⟩) (sLen + m) (grownCap w (sLen + m) sCap e))
      (w.drew.alloc (.cells (olds ++ news ++ Builtin.zeroCells z.cells (grownCap w (sLen + m) sCap e - (sLen + m))) e)) := by
  have hn : ¬ (sLen + m ≤ sCap) := by omega
  have h48 := growslice_fits (bytes := i.bytes) hroom (by omega)
  have h63' : ¬ (9223372036854775807 < ((sLen : Int) + (m : Int))) := by omega
  have h48' : ¬ (281474976710656 < Builtin.nextslicecap (sLen + m) sCap * i.bytes) := by omega
  rcases slicey_spec hu with ⟨e', hd⟩ | hd <;>
  simp [Builtin.append_, h0, h1, c0, c1, run_underlying ht, run_underlying hd, sizeOf, typeInfo, zeroValue, hi, hz, hl, hn, h63', h48', Question.forced, hf, ho, Go.newRow, grownCap]

end

/-- The lists of stamps: at one stamp turned, or one more. -/
def Upd (L L' : List (Nat × Nat)) (i : Nat) (p : Nat × Nat) : Prop := ∀ k, L'[k]? = if k = i then some p else L[k]?

theorem Upd.push (L : List (Nat × Nat)) (p : Nat × Nat) : Upd L (L ++ [p]) L.length p := by
  intro k
  rw [List.getElem?_append]
  by_cases h : k = L.length
  · subst h; simp
  · rw [if_neg h]
    split
    · rfl
    · rw [List.getElem?_eq_none (by simp; omega), List.getElem?_eq_none (by omega)]

theorem Upd.set {L : List (Nat × Nat)} {i : Nat} (p : Nat × Nat) (h : i < L.length) : Upd L (L.set i p) i p := by
  intro k
  rw [List.getElem?_set]
  by_cases e : i = k
  · subst e; simp [h]
  · rw [if_neg e, if_neg (fun h => e h.symm)]

section
variable {base : Nat} {g : Gh} {s : St} {w : World}

/-- A slice of a stamp in a new block. -/
theorem WR.fresh (h : WR base g s w) {i n cap sz : Nat} {L' : List (Nat × Nat)} (hu : Upd s.live L' i (n, sz)) {pre rest : Array Value} {e : TypeId} {fz : Nat × Nat} (hpre : pre.size = n * sz) (hrest : rest.size = (cap - n) * sz)
    (hc : n ≤ cap) (hn : ∀ (o : Nat), o < (pre ++ rest).size → ¬ (fz.1 ≤ o ∧ o < fz.2)) (hold : ∀ m sz', s.live[i]? = some (m, sz') → m < n) :
    ∃ g', Grow base g g' w (w.alloc (.cells (pre ++ rest) e fz)) ∧ WR base g' { s with live := L' } (w.alloc (.cells (pre ++ rest) e fz)) ∧
      g'.hist i n = some (.slice (some ⟨w.heap.size, 0, none⟩) n cap, sz) ∧ ∀ o, o < n * sz → g'.C w.heap.size o = pre[o]? := by
  obtain ⟨h1, h2⟩ := h.claim (pre ++ rest) e fz (n * sz)
  have hnone : g.hist i n = none := h.past i n hold
  let g' : Gh := { g.claim w.heap.size (pre ++ rest) (n * sz) with hist := fun j k => if j = i ∧ k = n then some (.slice (some ⟨w.heap.size, 0, none⟩) n cap, sz) else g.hist j k }
  have hh : ∀ j k v, g.hist j k = some v → g'.hist j k = some v := by
    intro j k v hv
    simp only [g']
    rw [if_neg]
    · exact hv
    · rintro ⟨rfl, rfl⟩; rw [hnone] at hv; simp at hv
  have hsub : Sub (g.claim w.heap.size (pre ++ rest) (n * sz)) g' := ⟨fun _ _ h => h, fun _ _ _ h => h, hh⟩
  have hnew : (w.alloc (.cells (pre ++ rest) e fz)).heap[w.heap.size]? = some (.cells (pre ++ rest) e fz) := by rw [alloc_get, if_pos rfl]
  refine ⟨g', ⟨h2.loc, h2.C, h2.new, fun j k v hv => hh j k v hv, h2.below⟩, ⟨h1.len, h1.inj, h1.low, h1.room, ?_, h1.imm, ?_, ?_, ?_, h1.glob⟩, by simp [g'], ?_⟩
  · intro j k b hk hb
    obtain ⟨o, ho, hr⟩ := h1.blk j k b hk hb
    exact ⟨o, ho, hr.mono hsub⟩
  · intro j m sz' hl
    simp only at hl
    rw [hu] at hl
    by_cases ej : j = i
    · subst ej
      rw [if_pos rfl] at hl
      simp only [Option.some.injEq, Prod.mk.injEq] at hl
      obtain ⟨rfl, rfl⟩ := hl
      refine ⟨w.heap.size, 0, cap, pre ++ rest, e, fz, by simp [g'], h.room, fun k hk => ?_, hnew, ?_, hc, hn, fun o ho => ?_⟩
      · have := h.loc_lt (i := k) hk; omega
      · rw [Array.size_append, hpre, hrest, ← Nat.add_mul, Nat.zero_add, Nat.add_sub_cancel' hc]
      · simp only [g', Gh.claim, if_true]
        rw [if_neg (by omega)]
    · rw [if_neg ej] at hl
      obtain ⟨b, off, cap', cs', t', fz', a1, a2, a3, a4, a5, a6, a7, a8⟩ := h1.own j m sz' hl
      refine ⟨b, off, cap', cs', t', fz', ?_, a2, a3, a4, a5, a6, a7, a8⟩
      simp only [g']
      rw [if_neg (fun h => ej h.1)]
      exact a1
  · intro j k hk
    simp only [g']
    by_cases ej : j = i
    · subst ej
      have hlt := hk n sz (by simp only; rw [hu, if_pos rfl])
      rw [if_neg (by omega)]
      exact h.past j k fun m sz' hm => Nat.lt_trans (hold m sz' hm) hlt
    · rw [if_neg (fun h => ej h.1)]
      refine h.past j k fun m sz' hm => hk m sz' ?_
      simp only
      rw [hu, if_neg ej]; exact hm
  · intro j k m m' sz1 sz2 b o c o' c' hj hk e1 e2
    simp only at hj hk
    rw [hu] at hj hk
    simp only [g'] at e1 e2
    have hlt : ∀ j m sz1 b o c, s.live[j]? = some (m, sz1) → g.hist j m = some (.slice (some ⟨b, o, none⟩) m c, sz1) → b < w.heap.size := by
      intro j m sz1 b o c hj hh
      obtain ⟨b', off, cap', cs', t', fz', a1, a2, a3, a4, a5, a6, a7, a8⟩ := h.own j m sz1 hj
      rw [hh] at a1
      simp only [Option.some.injEq, Prod.mk.injEq, Value.slice.injEq, Addr.mk.injEq] at a1
      have := lt_of_get a4
      omega
    by_cases ej : j = i <;> by_cases ek : k = i
    · rw [ej, ek]
    · subst ej
      rw [if_pos rfl] at hj
      simp only [Option.some.injEq, Prod.mk.injEq] at hj
      obtain ⟨rfl, rfl⟩ := hj
      rw [if_neg ek] at hk
      rw [if_pos ⟨rfl, rfl⟩] at e1
      rw [if_neg (fun h => ek h.1)] at e2
      simp only [Option.some.injEq, Prod.mk.injEq, Value.slice.injEq, Addr.mk.injEq] at e1
      have := hlt k _ _ _ _ _ hk e2
      omega
    · subst ek
      rw [if_pos rfl] at hk
      simp only [Option.some.injEq, Prod.mk.injEq] at hk
      obtain ⟨rfl, rfl⟩ := hk
      rw [if_neg ej] at hj
      rw [if_pos ⟨rfl, rfl⟩] at e2
      rw [if_neg (fun h => ej h.1)] at e1
      simp only [Option.some.injEq, Prod.mk.injEq, Value.slice.injEq, Addr.mk.injEq] at e2
      have := hlt j _ _ _ _ _ hj e1
      omega
    · rw [if_neg ej] at hj
      rw [if_neg ek] at hk
      rw [if_neg (fun h => ej h.1)] at e1
      rw [if_neg (fun h => ek h.1)] at e2
      exact h.apart j k _ _ _ _ _ _ _ _ _ hj hk e1 e2
  · intro o ho
    simp only [g', Gh.claim, if_true]
    rw [if_pos ho, Array.getElem?_append_left (by rw [hpre]; exact ho)]

/-- A slice of a stamp that grows where it lies. -/
theorem WR.inPlace (h : WR base g s w) {i n m cap sz b off : Nat} {L' : List (Nat × Nat)} {cs : Array Value} {e : TypeId} {fz : Nat × Nat} (hu : Upd s.live L' i (n + m, sz)) (hl : s.live[i]? = some (n, sz))
    (hh : g.hist i n = some (.slice (some ⟨b, off, none⟩) n cap, sz)) (hbase : base ≤ b) (hloc : ∀ (j : Nat), g.loc[j]? ≠ some b) (hcell : w.heap[b]? = some (.cells cs e fz)) (hsize : cs.size = off + cap * sz) (hfz : ∀ (o : Nat), o < cs.size → ¬ (fz.1 ≤ o ∧ o < fz.2))
    (hnone : ∀ o, off + n * sz ≤ o → g.C b o = none) {news : List Value} (hnews : news.length = m * sz) (hm : 0 < m) (hroom : n + m ≤ cap) :
    ∃ g', Grow base g g' w (setBlk w b (.cells (setAllC cs (off + n * sz) news) e fz)) ∧ WR base g' { s with live := L' } (setBlk w b (.cells (setAllC cs (off + n * sz) news) e fz)) ∧
      g'.hist i (n + m) = some (.slice (some ⟨b, off, none⟩) (n + m) cap, sz) ∧ ∀ o, o < m * sz → g'.C b (off + n * sz + o) = news[o]? := by
  have hlt := lt_of_get hcell
  have hget : ∀ (vs : List Value) (cs : Array Value) (k q : Nat), k + vs.length ≤ cs.size → (setAllC cs k vs)[q]? = if k ≤ q ∧ q < k + vs.length then vs[q - k]? else cs[q]? := by
    intro vs
    induction vs with
    | nil => intro cs k q _; simp only [setAllC]; rw [if_neg (by simp)]
    | cons v vs ih =>
      intro cs k q hk
      simp only [List.length_cons] at hk
      rw [setAllC, ih _ _ _ (by simp; omega), Array.getElem?_setIfInBounds]
      simp only [List.length_cons]
      by_cases h1 : k = q
      · subst h1
        rw [if_neg (by omega), if_pos rfl, if_pos (by omega), if_pos (by omega)]
        simp
      · by_cases h2 : k + 1 ≤ q ∧ q < k + 1 + vs.length
        · rw [if_pos h2, if_pos (by omega)]
          have : q - k = (q - (k + 1)) + 1 := by omega
          rw [this, List.getElem?_cons_succ]
        · rw [if_neg h2, if_neg h1, if_neg (by omega)]
  have hfit : off + n * sz + news.length ≤ cs.size := by
    rw [hsize, hnews]
    have : (n + m) * sz ≤ cap * sz := Nat.mul_le_mul_right _ hroom
    rw [Nat.add_mul] at this
    omega
  have hpast : g.hist i (n + m) = none := h.past i (n + m) fun k sz' hk => by rw [hl] at hk; simp at hk; omega
  let w' := setBlk w b (.cells (setAllC cs (off + n * sz) news) e fz)
  have hw' : w'.heap[b]? = some (.cells (setAllC cs (off + n * sz) news) e fz) := by simp only [w']; rw [setBlk_get, if_pos ⟨rfl, hlt⟩]
  have hother : ∀ k, k ≠ b → w'.heap[k]? = w.heap[k]? := fun k hk => by simp only [w']; rw [setBlk_get, if_neg (fun h => hk h.1.symm)]
  let g' : Gh := { loc := g.loc, C := fun k o => if k = b ∧ off + n * sz ≤ o ∧ o < off + (n + m) * sz then news[o - (off + n * sz)]? else g.C k o,
                   hist := fun j k => if j = i ∧ k = n + m then some (.slice (some ⟨b, off, none⟩) (n + m) cap, sz) else g.hist j k }
  have hC : ∀ k o v, g.C k o = some v → g'.C k o = some v := by
    intro k o v hv
    simp only [g']
    rw [if_neg]
    · exact hv
    · rintro ⟨rfl, h1, _⟩; rw [hnone o h1] at hv; simp at hv
  have hH : ∀ j k v, g.hist j k = some v → g'.hist j k = some v := by
    intro j k v hv
    simp only [g']
    rw [if_neg]
    · exact hv
    · rintro ⟨rfl, rfl⟩; rw [hpast] at hv; simp at hv
  have hsub : Sub g g' := ⟨fun _ _ h => h, hC, hH⟩
  have hmul : (n + m) * sz = n * sz + m * sz := Nat.add_mul _ _ _
  refine ⟨g', ⟨fun _ _ h => h, hC, fun k o v hv => ?_, hH, below_setBlk w _ hbase⟩, ⟨h.len, h.inj, h.low, by rw [setBlk_size]; exact h.room, ?_, ?_, ?_, ?_, ?_, h.keeps (below_setBlk w _ hbase)⟩, by simp [g'], ?_⟩
  · simp only [g'] at hv
    split at hv
    · rename_i hc; exact .inr (hc.1 ▸ hbase)
    · exact .inl hv
  · intro j k b' hk hb'
    obtain ⟨o, ho, hr⟩ := h.blk j k b' hk hb'
    refine ⟨o, ?_, hr.mono hsub⟩
    rw [hother b' (fun e => hloc j (e ▸ hb'))]
    exact ho
  · intro k o v hv
    simp only [g'] at hv
    split at hv
    · rename_i hc
      obtain ⟨rfl, h1, h2⟩ := hc
      refine ⟨?_, hloc⟩
      rw [cell_of w' k o _ e fz hw', hget _ _ _ _ hfit, if_pos ⟨h1, by rw [hnews]; omega⟩]
      exact hv
    · rename_i hc
      have h0 := h.imm k o v hv
      refine ⟨?_, h0.2⟩
      by_cases ek : k = b
      · subst ek
        have hlo : o < off + n * sz := by
          rcases Nat.lt_or_ge o (off + n * sz) with h' | h'
          · exact h'
          · rw [hnone o h'] at hv; simp at hv
        rw [cell_of w' k o _ e fz hw', hget _ _ _ _ hfit, if_neg (by omega)]
        rw [cell_of w k o _ e fz hcell] at h0
        exact h0.1
      · rw [World.cell?_of_block (w := w) (hother k ek)]; exact h0.1
  · intro j q sz' hj
    simp only at hj
    rw [hu] at hj
    by_cases ej : j = i
    · subst ej
      rw [if_pos rfl] at hj
      simp only [Option.some.injEq, Prod.mk.injEq] at hj
      obtain ⟨rfl, rfl⟩ := hj
      refine ⟨b, off, cap, _, e, fz, by simp [g'], hbase, hloc, hw', by rw [setAllC_size]; exact hsize, hroom, by rw [setAllC_size]; exact hfz, fun o ho => ?_⟩
      simp only [g']
      rw [if_neg (by omega)]
      exact hnone o (by omega)
    · rw [if_neg ej] at hj
      obtain ⟨b', off', cap', cs', t', fz', a1, a2, a3, a4, a5, a6, a7, a8⟩ := h.own j q sz' hj
      have hne : b' ≠ b := by
        rintro rfl
        exact ej (h.apart j i _ _ _ _ _ _ _ _ _ hj hl a1 hh)
      refine ⟨b', off', cap', cs', t', fz', ?_, a2, a3, by rw [hother b' hne]; exact a4, a5, a6, a7, fun o ho => ?_⟩
      · simp only [g']
        rw [if_neg (fun h => ej h.1)]
        exact a1
      · simp only [g']
        rw [if_neg (fun h => hne h.1)]
        exact a8 o ho
  · intro j k hk
    simp only [g']
    by_cases ej : j = i
    · subst ej
      have hlt := hk (n + m) sz (by simp only; rw [hu, if_pos rfl])
      rw [if_neg (by omega)]
      exact h.past j k fun q sz' hq => by rw [hl] at hq; simp at hq; omega
    · rw [if_neg (fun h => ej h.1)]
      refine h.past j k fun q sz' hq => hk q sz' ?_
      simp only
      rw [hu, if_neg ej]; exact hq
  · intro j k q q' sz1 sz2 b1 o c o' c' hj hk e1 e2
    simp only at hj hk
    rw [hu] at hj hk
    simp only [g'] at e1 e2
    by_cases ej : j = i <;> by_cases ek : k = i
    · rw [ej, ek]
    · subst ej
      rw [if_pos rfl] at hj
      simp only [Option.some.injEq, Prod.mk.injEq] at hj
      obtain ⟨rfl, rfl⟩ := hj
      rw [if_neg ek] at hk
      rw [if_pos ⟨rfl, rfl⟩] at e1
      rw [if_neg (fun h => ek h.1)] at e2
      simp only [Option.some.injEq, Prod.mk.injEq, Value.slice.injEq, Addr.mk.injEq] at e1
      obtain ⟨⟨⟨rfl, rfl, _⟩, _, rfl⟩, _⟩ := e1
      exact h.apart j k _ _ _ _ _ _ _ _ _ hl hk hh e2
    · subst ek
      rw [if_pos rfl] at hk
      simp only [Option.some.injEq, Prod.mk.injEq] at hk
      obtain ⟨rfl, rfl⟩ := hk
      rw [if_neg ej] at hj
      rw [if_pos ⟨rfl, rfl⟩] at e2
      rw [if_neg (fun h => ej h.1)] at e1
      simp only [Option.some.injEq, Prod.mk.injEq, Value.slice.injEq, Addr.mk.injEq] at e2
      obtain ⟨⟨⟨rfl, rfl, _⟩, _, rfl⟩, _⟩ := e2
      exact h.apart j k _ _ _ _ _ _ _ _ _ hj hl e1 hh
    · rw [if_neg ej] at hj
      rw [if_neg ek] at hk
      rw [if_neg (fun h => ej h.1)] at e1
      rw [if_neg (fun h => ek h.1)] at e2
      exact h.apart j k _ _ _ _ _ _ _ _ _ hj hk e1 e2
  · intro o ho
    simp only [g']
    rw [if_pos ⟨trivial, by omega, by omega⟩]
    congr 1; omega

end
end
end Go.Ev
