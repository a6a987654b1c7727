/- The text seat: how its functions are evaluated; the head of the law. -/
import Derived.Test.YtfojnphbocojfaaGreatDoorEvTx1
import Derived.KernelRfl
set_option linter.all false
set_option linter.unusedVariables false
set_option linter.unusedSimpArgs false
namespace Go.Ev
open Go Go.RowKit Go.Proofs

def mkl (n : Nat) : List (Nat × Nat) := (List.range n).map (·, 1)

def txRest : FuncId → Nat → Option (List (Nat × Nat))
  | 21, 7 => some (mkl 12)
  | 25, 8 => some [(1, 1), (2, 1), (3, 1), (4, 1), (5, 1), (6, 1), (7, 1), (8, 1), (9, 1), (10, 1), (11, 1), (0, 0), (12, 2), (13, 2), (14, 2), (15, 1)]
  | 33, 3 => some [(0, 1), (1, 1), (4, 1), (5, 1), (6, 1), (7, 1), (8, 1), (9, 1), (10, 1), (11, 1), (12, 1), (2, 0), (3, 0), (13, 2), (14, 1), (15, 2)]
  | 43, 7 => some (mkl 13 ++ [(13, 2)])
  | 49, 13 => some [(2, 1), (3, 1), (4, 1), (5, 1), (6, 1), (7, 1), (8, 1), (9, 1), (0, 0), (1, 0), (10, 2), (11, 1), (12, 2)]
  | 68, 4 => some (mkl 8)
  | _, _ => none

def txExt (f : FuncId) : Option (List V → St → Out V) :=
  if f = 57 then some repeatV else if f = 93 then some indexByteV else if f = 92 then some fieldsV else none

def txCfg : Cfg where
  ext := txExt
  shut f := f = 44 || f = 89 || f = 62 || f = 93
  heapy f _ _ := f = 33 || f = 49 || f = 10 || f = 47
  dead _ _ := []
  rest := txRest
  sym _ := false
  loop _ _ := none
  quiet _ := none
  mem _ := false

def allSched (cfg : Cfg) (P : Program) : Bool :=
  P.funcs.toList.zipIdx.all fun p => match p.1.body with | some c => codeSched cfg p.2 c | none => true

theorem sched_of_all {cfg : Cfg} {P : Program} (h : allSched cfg P = true) : ∀ f fn c, P.funcs[f]? = some fn → fn.body = some c → codeSched cfg f c = true := by
  intro f fn c hf hb
  have := List.all_eq_true.1 h (fn, f) (by
    rw [List.mem_zipIdx_iff_getElem?]
    simpa using hf)
  simp only [hb] at this
  exact this

theorem tx_names : NamesOk Tryz.prog := by unfold NamesOk; kernel_rfl
theorem tx_mixed : Tryz.prog.follows .mixedOrders = true := by kernel_rfl
theorem tx_sched : allSched txCfg Tryz.prog = true := by kernel_rfl

theorem tx_ok (B : Nat) : letI := txGlob B; CfgOk Tryz.prog txCfg := by
  letI := txGlob B
  refine ⟨tx_names, tx_mixed, sched_of_all tx_sched, fun f fn c _ _ k _ c' _ h hl => by simp [txCfg] at hl, fun f h hf => ?_, fun f h hf => by simp [txCfg] at hf⟩
  simp only [txCfg, txExt] at hf
  split at hf
  · rename_i e; subst e; simp only [Option.some.injEq] at hf; subst hf
    exact ⟨repeat_ok, _, Tryz.func57, rfl⟩
  · split at hf
    · rename_i e; subst e; simp only [Option.some.injEq] at hf; subst hf
      exact ⟨indexByte_ok, _, Tryz.func93, rfl⟩
    · split at hf
      · rename_i e; subst e; simp only [Option.some.injEq] at hf; subst hf
        exact ⟨fields_ok B, _, Tryz.func92, rfl⟩
      · simp at hf

def allTrue : Nat → Out V → Bool
  | 0, _ => false
  | _ + 1, .ok (.bool true) _ => true
  | n + 1, .choice k f => (List.range k).all fun i => allTrue n (f i)
  | _, _ => false

theorem allTrue_spec : ∀ (n : Nat) (x : Out V), allTrue n x = true → x.all (fun v _ => v = .bool true) (fun _ _ => False)
  | 0, _, h => by simp [allTrue] at h
  | n + 1, x, h => by
    cases x with
    | ok v s =>
      unfold allTrue at h
      split at h <;> simp_all [Out.all]
    | pan v s => simp [allTrue] at h
    | err => simp [allTrue] at h
    | br t x y => simp [allTrue] at h
    | choice k f =>
      simp only [allTrue, List.all_eq_true, List.mem_range] at h
      exact fun i hi => allTrue_spec n (f i) (h i hi)

end Go.Ev
