/- A program's table, by the program itself. -/
import Derived.Test.YtmbohkdfdolkkaaGreatDoorAiS2
import Derived.KernelRfl
namespace Go.Ai
open Go

def FI.extern (f : Func) : FI :=
  if f.origin = "" then (if f.name = "math.Float64bits" then FI.bits true else if f.name = "math.Float64frombits" then FI.bits false else FI.none) else FI.none
def FI.ofFunc' (f : Func) : FI := Option.casesOn f.body (FI.extern f) fun c => FI.some f.ntmps f.results.toList c
def FI.ofP (P : Program) (f : Nat) : FI := Option.casesOn (P.funcs[f]?) FI.none FI.ofFunc'
/-- The table of a program. -/
noncomputable def Tab.of (P : Program) : Tab := ⟨TT.mk (FI.ofP P) P.funcs.size, TT.mk (mkTI P) P.types.size⟩

theorem FI.extern_bits {f : Func} {to : Bool} (h : FI.extern f = .bits to) : f.origin = "" ∧ f.name = cond to "math.Float64bits" "math.Float64frombits" := by
  unfold FI.extern at h
  split at h
  · split at h
    · cases h; exact ⟨by assumption, by assumption⟩
    · split at h
      · cases h; exact ⟨by assumption, by assumption⟩
      · cases h
  · cases h
theorem FI.extern_some {f : Func} {a : Nat} {b : List ResultVar} {c : Code} (h : FI.extern f = .some a b c) : False := by
  unfold FI.extern at h
  repeat' split at h
  all_goals cases h

theorem n1 : Extern.allNextRows.lookup "math.Float64bits" = none := by kernel_rfl
theorem n2 : Extern.allNextRows.lookup "math.Float64frombits" = none := by kernel_rfl
theorem n3 : Extern.allNextRows.lookup "" = none := by kernel_rfl
theorem g1 : Extern.allGenericRows.lookup "math.Float64bits" = none := by kernel_rfl
theorem g2 : Extern.allGenericRows.lookup "math.Float64frombits" = none := by kernel_rfl
theorem t1 : Extern.allTypedRows.lookup "math.Float64bits" = none := by kernel_rfl
theorem t2 : Extern.allTypedRows.lookup "math.Float64frombits" = none := by kernel_rfl
theorem r1 : Extern.allRows.lookup "math.Float64bits" = some Extern.MathFloatBits.float64bits := by kernel_rfl
theorem r2 : Extern.allRows.lookup "math.Float64frombits" = some Extern.MathFloatBits.float64frombits := by kernel_rfl

theorem find_bits {fn : Func} {to : Bool} (h : FI.extern fn = .bits to) : Extern.findNext fn = none ∧ Extern.find fn = some (fun args => cond to (Extern.MathFloatBits.float64bits args) (Extern.MathFloatBits.float64frombits args)) := by
  obtain ⟨h1, h2⟩ := FI.extern_bits h
  cases to with
  | true =>
    have h2 : fn.name = "math.Float64bits" := h2
    constructor
    · simp only [Extern.findNext, h1, h2, n1, n3]; rfl
    · simp only [Extern.find, h2, g1, t1, r1]; rfl
  | false =>
    have h2 : fn.name = "math.Float64frombits" := h2
    constructor
    · simp only [Extern.findNext, h1, h2, n2, n3]; rfl
    · simp only [Extern.find, h2, g2, t2, r2]; rfl

theorem Fits.of (P : Program) (hng : ∀ (f : Nat) (fn : Func), P.funcs[f]? = some fn → (fn.name == "runtime.NumGoroutine") = false) : Fits (Tab.of P) P := by
  refine ⟨fun t => ?_, fun f nt rs c h => ?_, fun f to h args w => ?_⟩
  · show TT.get TI.no (TT.mk (mkTI P) _) t = _ ∨ _ = _
    rw [get_mk]
    split
    · exact .inr (by show TT.get TI.no (TT.mk (mkTI P) _) t = _; rw [get_mk, if_pos (by assumption)])
    · exact .inl rfl
  · have h : TT.get .none (TT.mk (FI.ofP P) _) f = .some nt rs c := h
    rw [get_mk] at h
    split at h
    · unfold FI.ofP at h
      cases hf : P.funcs[f]? with
      | none => rw [hf] at h; cases h
      | some fn =>
        rw [hf] at h
        have h : FI.ofFunc' fn = .some nt rs c := h
        unfold FI.ofFunc' at h
        cases hb : fn.body with
        | none => rw [hb] at h; exact (FI.extern_some h).elim
        | some c' => rw [hb] at h; cases h; exact ⟨fn, rfl, rfl, rfl, hb, hng f fn hf⟩
    · cases h
  · have h : TT.get .none (TT.mk (FI.ofP P) _) f = .bits to := h
    rw [get_mk] at h
    split at h
    · unfold FI.ofP at h
      cases hf : P.funcs[f]? with
      | none => rw [hf] at h; cases h
      | some fn =>
        rw [hf] at h
        have h : FI.ofFunc' fn = .bits to := h
        unfold FI.ofFunc' at h
        cases hb : fn.body with
        | some c => rw [hb] at h; cases h
        | none =>
          rw [hb] at h
          obtain ⟨e1, e2⟩ := find_bits h
          have hn : fn.name ≠ "runtime.NumGoroutine" := by simpa using hng f fn hf
          simp only [callFunc, Sem.run_bind, run_program, Result.andThen_ok, hf]
          simp [hn, hb, e1, e2, mark]
          rfl
    · cases h
end Go.Ai
