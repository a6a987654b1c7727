/- Helpers for contracts of functions that are taken from the shelf. -/
import Derived.Test.YtfojnphbocojfaaGreatDoorEvSound
set_option linter.all false
set_option linter.unusedVariables false
set_option linter.unusedSimpArgs false
namespace Go.Ev
open Go Go.RowKit
variable [Glob]

section
variable {base : Nat} {g : Gh} {s : St} {w : World}

theorem VRs.one {x : V} {ys : Array Value} (h : VRs g [x] ys) : ∃ a, ys = #[a] ∧ VR g x a := by
  obtain ⟨h1, h2⟩ := h
  have h1' : ys.size = 1 := h1.symm
  refine ⟨ys[0], ?_, h2 0 x _ rfl (by simp)⟩
  apply Array.ext
  · simp [h1']
  · intro i hi hj
    have : i = 0 := by omega
    subst this; rfl

theorem VRs.two {x y : V} {ys : Array Value} (h : VRs g [x, y] ys) : ∃ a b, ys = #[a, b] ∧ VR g x a ∧ VR g y b := by
  obtain ⟨h1, h2⟩ := h
  have h1' : ys.size = 2 := h1.symm
  refine ⟨ys[0], ys[1], ?_, h2 0 x _ rfl (by simp), h2 1 y _ rfl (by simp)⟩
  apply Array.ext
  · simp [h1']
  · intro i hi hj
    have : i = 0 ∨ i = 1 := by omega
    rcases this with rfl | rfl <;> rfl

/-- The world grew, and nothing that lay has turned. -/
theorem WR.stay (h : WR base g s w) {w' : World} (hb : Below w.heap.size w w') : WR base g s w' ∧ Grow base g g w w' := by
  have hw : WR w.heap.size g.bare {} w' :=
    ⟨rfl, fun i j b h => by simp [Gh.bare] at h, fun i b h => by simp [Gh.bare] at h, hb.size, fun i k b h => by simp at h,
     fun b o v hc => ⟨by
        have hlt := h.imm_lt hc
        have := (h.imm b o v hc).1
        unfold World.cell? at this ⊢
        rw [hb.block b hlt]; exact this, fun i hi => by simp [Gh.bare] at hi⟩, fun i n sz hl => by simp at hl, fun i n _ => rfl, fun i j n m sz sz' b o c o' c' hl => by simp at hl,
     (h.bare.keeps hb)⟩
  obtain ⟨h1, h2⟩ := h.back (g' := g.bare) ⟨fun _ _ h => h, fun _ _ _ h => h, fun _ _ _ e => .inl e, fun _ _ _ h => h, hb⟩ hw
  exact ⟨h1, h2⟩

/-- A call that hands back a value that looks at no memory, the world having grown. -/
theorem callOk_grown {P : Program} {f : FuncId} {cargs : Array Value} {c : Value} {v : V} {K Kp : V → St → Prop} (hw : WR base g s w) (hK : K v s) (hv : VR g v c)
    (h : Calls P f cargs w fun e w' => e = .returned c ∧ Below w.heap.size w w') : Calls P f cargs w (Post base g w K Kp) :=
  h.mono fun e w' ⟨he, hb⟩ => by
    subst he
    obtain ⟨h1, h2⟩ := hw.stay hb
    exact ⟨v, s, g, hK, h2, h1, hv⟩

theorem str_list {l : List UInt8} {c : Value} (h : VR g (.str l) c) : ∃ ba : ByteArray, c = .string ba ∧ ba.data.toList = l := by
  cases h
  exact ⟨_, rfl, rfl⟩
end
end Go.Ev
