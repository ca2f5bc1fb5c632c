/- A call whose body branches early on something that is not known: the branch is taken out. -/
import Derived.Test.YtmbohkdfdolkkaaGreatDoorAiTab
namespace Go.Ai
open Go

noncomputable def ER.env (r : ER) : Env := ER.casesOn r .e (fun ρ _ => ρ) (fun _ ρ _ => ρ) (fun ρ _ => ρ)
noncomputable def ER.heap (r : ER) : Heap := ER.casesOn r Hn (fun _ H => H) (fun _ _ H => H) (fun _ H => H)
noncomputable def FI.code (x : FI) : Code := FI.casesOn x .skip (fun _ _ c => c) (fun _ => .skip)
noncomputable def FI.res (x : FI) : List ResultVar := FI.casesOn x [] (fun _ rs _ => rs) (fun _ => [])
noncomputable def FI.slots (x : FI) : Nat := FI.casesOn x 0 (fun n _ _ => n) (fun _ => 0)
def cL : Code → Code | .seq a _ => a | c => c
def cR : Code → Code | .seq _ b => b | c => c
def cT : Code → Code | .cond _ a _ => a | c => c
def cE : Code → Code | .cond _ _ b => b | c => c
def cC : Code → Operand | .cond c _ _ => c | _ => .tmp 0

section
variable (T : Tab) (call : Caller) (rounds : Nat) (draw : List Oper → Env → Heap → ER)
/-- What comes behind a branch. -/
noncomputable def andThenA (Z : Code) (r : ER) : ER := ER.casesOn r .fail (fun ρ H => execA T call rounds draw Z ρ H) (fun id ρ H => .exit id ρ H) (fun ρ H => .ret ρ H)
noncomputable def endA (rs : List ResultVar) (r : ER) : KR := ER.casesOn r .fail (fun ρ H => resultsA T rs ρ H) (fun _ _ _ => .fail) (fun ρ H => resultsA T rs ρ H)
end

theorem call_peel {S : Sums} {T : Tab} {rounds : Nat} {draw : Caller → List Oper → Env → Heap → ER} {n : Nat} {f : FuncId} {args : List AV} {H H1 H2 : Heap} {nt : Nat} {rs : List ResultVar} {R0 R1 A B Z : Code} {c : Operand} {ρ1 ρ2 : Env} {b : Bool}
    (hS : S f args H = .no) (hT : T.fn f = .some nt rs (.seq R0 (.seq (.seq R1 (.cond c A B)) Z)))
    (h0 : execA T (callA T S rounds draw n) rounds (draw (callA T S rounds draw n)) R0 (initA args (cond (Nat.ble (llen args) nt) nt (llen args))) H = .normal ρ1 H1)
    (h1 : execA T (callA T S rounds draw n) rounds (draw (callA T S rounds draw n)) R1 ρ1 H1 = .normal ρ2 H2) (hc : ev c ρ2 = .bool b) :
    callA T S rounds draw (n + 1) f args H = endA T rs (andThenA T (callA T S rounds draw n) rounds (draw (callA T S rounds draw n)) Z
      (cond b (execA T (callA T S rounds draw n) rounds (draw (callA T S rounds draw n)) A ρ2 H2) (execA T (callA T S rounds draw n) rounds (draw (callA T S rounds draw n)) B ρ2 H2))) := by
  have e : callA T S rounds draw (n + 1) f args H = SR.casesOn (motive := fun _ => KR) (S f args H)
      (FI.casesOn (motive := fun _ => KR) (T.fn f) .fail
        (fun ntmps rs c => endA T rs (execA T (callA T S rounds draw n) rounds (draw (callA T S rounds draw n)) c (initA args (cond (Nat.ble (llen args) ntmps) ntmps (llen args))) H))
        (fun _ => .fail))
      (fun v H => .ok v H) .fail := rfl
  rw [e, hS, hT]
  show endA T rs (execA T (callA T S rounds draw n) rounds (draw (callA T S rounds draw n)) (.seq R0 (.seq (.seq R1 (.cond c A B)) Z)) (initA args (cond (Nat.ble (llen args) nt) nt (llen args))) H) = _
  have s : ∀ X Y ρ H, execA T (callA T S rounds draw n) rounds (draw (callA T S rounds draw n)) (.seq X Y) ρ H = andThenA T (callA T S rounds draw n) rounds (draw (callA T S rounds draw n)) Y (execA T (callA T S rounds draw n) rounds (draw (callA T S rounds draw n)) X ρ H) := fun _ _ _ _ => rfl
  have k : ∀ ρ H, execA T (callA T S rounds draw n) rounds (draw (callA T S rounds draw n)) (.cond c A B) ρ H = (ev c ρ).onBool .fail fun b => cond b (execA T (callA T S rounds draw n) rounds (draw (callA T S rounds draw n)) A ρ H) (execA T (callA T S rounds draw n) rounds (draw (callA T S rounds draw n)) B ρ H) := fun _ _ => rfl
  have p : ∀ Y ρ H, andThenA T (callA T S rounds draw n) rounds (draw (callA T S rounds draw n)) Y (.normal ρ H) = execA T (callA T S rounds draw n) rounds (draw (callA T S rounds draw n)) Y ρ H := fun _ _ _ => rfl
  rw [s, h0, p, s, s, h1, p, k, hc]
  rfl
end Go.Ai
