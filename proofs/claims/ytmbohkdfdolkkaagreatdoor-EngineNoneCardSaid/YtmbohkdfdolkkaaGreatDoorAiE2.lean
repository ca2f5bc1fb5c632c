/- Regions in the order of the text; code; calls. -/
import Derived.Test.YtmbohkdfdolkkaaGreatDoorAiE1
namespace Go.Ai
open Go
section
variable {P : Program} {T : Tab} {m : Mp}

/-- How code ends. -/
def Ends (m : Mp) (H : Heap) (w : World) (r : ER) : Exit → Act → World → Prop := fun e a w' => False ∨
  match r with
  | .fail => False
  | .normal ρ H' => e = .normal ∧ ∃ m', EnvR m' ρ a ∧ Step m H w m' H' w'
  | .exit id ρ H' => e = .exit id ∧ ∃ m', EnvR m' ρ a ∧ Step m H w m' H' w'
  | .ret ρ H' => e = .ret ∧ ∃ m', EnvR m' ρ a ∧ Step m H w m' H' w'

theorem Ends.trans {m₁ : Mp} {H H₁ : Heap} {w w₁ : World} (h : Step m H w m₁ H₁ w₁) {r : ER} {e : Exit} {a : Act} {w' : World} (k : Ends m₁ H₁ w₁ r e a w') : Ends m H w r e a w' := by
  rcases k with k | k
  · exact .inl k
  · refine .inr ?_
    cases r with
    | fail => exact k
    | normal ρ H' => obtain ⟨k1, m', k2, k3⟩ := k; exact ⟨k1, m', k2, h.trans k3⟩
    | exit id ρ H' => obtain ⟨k1, m', k2, k3⟩ := k; exact ⟨k1, m', k2, h.trans k3⟩
    | ret ρ H' => obtain ⟨k1, m', k2, k3⟩ := k; exact ⟨k1, m', k2, h.trans k3⟩

/-- How a call ends. -/
def Post (m : Mp) (H : Heap) (w : World) (v : AV) (H' : Heap) : Ending → World → Prop := fun e w' => False ∨ ∃ v' m', e = .returned v' ∧ VR m' v v' ∧ Step m H w m' H' w'

def CallerOk (P : Program) (call : Caller) : Prop :=
  ∀ f args H v H', call f args H = .ok v H' → ∀ m w args', Rel m H w → HW H → VRs m args args'.toList → Calls P f args' w (Post m H w v H')

theorem wantedA_sound {α : Type} {d yes no r : α} {o : Oper} {ops : Array Oper} {ρ : Env} {a : Act} (h : EnvR m ρ a) (e : wantedA d yes no o.guard ops.toList ρ = r) (hr : r ≠ d) :
    (Region.wanted o (yielded ops a.tmps) = true ∧ yes = r) ∨ (Region.wanted o (yielded ops a.tmps) = false ∧ no = r) := by
  unfold Region.wanted
  cases hg : o.guard with
  | none => rw [hg] at e; exact .inl ⟨rfl, e⟩
  | some jw =>
    obtain ⟨j, want⟩ := jw
    rw [hg] at e
    have hdst : ∀ (l : List Oper) (j : Nat), dstOf l j = (l[j]?).bind (·.dst) := by
      intro l
      induction l with
      | nil => intro j; rfl
      | cons o l ih =>
        intro j
        show cond (Nat.beq j 0) o.dst (dstOf l (Nat.sub j 1)) = _
        cases j with
        | zero => rfl
        | succ k => show dstOf l k = _; simpa using ih k
    have e : Option.casesOn (motive := fun _ => α) (dstOf ops.toList j) no (fun t => (ρ.get undefA t).onGuard d no fun b => cond b (cond want yes no) (cond want no yes)) = r := e
    rw [hdst, Array.getElem?_toList] at e
    show (yielded ops a.tmps j == some want) = true ∧ yes = r ∨ (yielded ops a.tmps j == some want) = false ∧ no = r
    unfold yielded
    cases hd : (ops[j]?).bind (·.dst) with
    | none => rw [hd] at e; exact .inr ⟨rfl, e⟩
    | some t =>
      rw [hd] at e
      have hv := h.get t
      rw [Array.getD_eq_getD_getElem?] at hv
      simp only [Option.bind_some]
      have e : (ρ.get undefA t).onGuard d no (fun b => cond b (cond want yes no) (cond want no yes)) = r := e
      generalize ρ.get undefA t = x at hv e
      cases hx : a.tmps[t]? with
      | none =>
        rw [hx] at hv
        have hv : VR m x (.tuple #[]) := hv
        cases hv with
        | bad => exact absurd e.symm hr
        | tup _ => exact .inr ⟨rfl, e⟩
      | some v =>
        rw [hx] at hv
        have hv : VR m x v := hv
        cases hv with
        | bad => exact absurd e.symm hr
        | bool b =>
          cases b <;> cases want <;> first | exact .inl ⟨rfl, e⟩ | exact .inr ⟨rfl, e⟩
        | _ => exact .inr ⟨rfl, e⟩

theorem opsA_sound (hT : Fits T P) {call : Caller} (hc : CallerOk P call) (ops : Array Oper) {Q : Exit → Act → World → Prop} : ∀ (l : List Oper) (k : Nat), ops.toList.drop k = l → ∀ (ρ : Env) (H : Heap) (m : Mp) (w : World) (a : Act) (ρ' : Env) (H' : Heap), Rel m H w → HW H → EnvR m ρ a → opsA T call ops.toList l ρ H = .normal ρ' H' →
    (∀ m' a' w', EnvR m' ρ' a' → Step m H w m' H' w' → Q .normal a' w') → wpOps P ops Q ((List.range ops.size).drop k) a w := by
  intro l
  induction l with
  | nil =>
    intro k hk ρ H m w a ρ' H' hr hw hρ he hq
    cases he
    have : ops.size ≤ k := by
      have := congrArg List.length hk
      simp at this; omega
    rw [List.drop_eq_nil_of_le (by simpa using this)]
    exact hq m a w hρ (.refl hr hw)
  | cons o l ih =>
    intro k hk ρ H m w a ρ' H' hr hw hρ he hq
    have hlt : k < ops.size := by
      rcases Nat.lt_or_ge k ops.size with h | h
      · exact h
      · rw [List.drop_eq_nil_of_le (by simpa using h)] at hk; cases hk
    have hk1 : ops.toList.drop (k + 1) = l := by rw [← List.drop_drop, hk]; rfl
    have ho : ops[k]? = some o := by
      have := congrArg List.head? hk
      rw [List.head?_drop, Array.getElem?_toList] at this
      exact this
    have hrange : (List.range ops.size).drop k = k :: (List.range ops.size).drop (k + 1) := by
      rw [List.drop_eq_getElem_cons (by simpa using hlt)]
      simp
    rw [hrange]
    have he : wantedA ER.fail
      (OR.casesOn (motive := fun _ => ER) (opB o.op T ρ H) .fail (fun v H => opsA T call ops.toList l (putA ρ o.dst v) H) (fun H => opsA T call ops.toList l (putA ρ o.dst undefA) H)
        (fun f args H => KR.casesOn (motive := fun _ => ER) (call f args H) .fail (fun v H => opsA T call ops.toList l (putA ρ o.dst v) H)))
      (opsA T call ops.toList l (putA ρ o.dst undefA) H) o.guard ops.toList ρ = .normal ρ' H' := he
    simp only [wpOps, ho]
    rcases wantedA_sound hρ he (by simp) with ⟨hwant, he⟩ | ⟨hwant, he⟩
    · rw [hwant]
      simp only [if_true]
      refine .inl ?_
      have hs := opB_sound (P := P) hT hr hw (fun x => hρ.ev x) o
      unfold Oper.wp
      cases hop : opB o.op T ρ H with
      | fail => rw [hop] at he; cases he
      | val v H1 =>
        rw [hop] at he hs
        obtain ⟨v', w', m', h1, h2, h3⟩ := hs
        rw [h1, Oper.upon_value]
        exact ih (k + 1) hk1 _ _ m' _ _ _ _ h3.rel h3.wf ((hρ.mono h3.le).put _ h2) he fun m2 a2 w2 g1 g2 => hq m2 a2 w2 g1 (h3.trans g2)
      | skip H1 =>
        rw [hop] at he hs
        obtain ⟨w', m', h1, h3⟩ := hs
        rw [h1, Oper.upon_skip]
        exact ih (k + 1) hk1 _ _ m' _ _ _ _ h3.rel h3.wf ((hρ.mono h3.le).put _ undef_VR) he fun m2 a2 w2 g1 g2 => hq m2 a2 w2 g1 (h3.trans g2)
      | call f args H1 =>
        rw [hop] at he hs
        have he2 : KR.casesOn (motive := fun _ => ER) (call f args H1) .fail (fun v H => opsA T call ops.toList l (putA ρ o.dst v) H) = .normal ρ' H' := he
        clear he
        obtain ⟨hH, _, args', h1, h2⟩ := hs
        subst hH
        rw [h1, Oper.upon_enter]
        cases hcall : call f args H1 with
        | fail => rw [hcall] at he2; cases he2
        | ok v H2 =>
          rw [hcall] at he2
          refine (hc f args H1 v H2 hcall m w args' hr hw h2).mono ?_
          intro e w' hp
          rcases hp with hp | ⟨v', m', rfl, g1, g2⟩
          · exact hp.elim
          · exact ih (k + 1) hk1 _ _ m' _ _ _ _ g2.rel g2.wf ((hρ.mono g2.le).put _ g1) he2 fun m2 a2 w2 g3 g4 => hq m2 a2 w2 g3 (g2.trans g4)
    · rw [hwant]
      simp only [Bool.false_eq_true, if_false]
      exact ih (k + 1) hk1 _ _ m _ _ _ _ hr hw (hρ.put _ undef_VR) he hq
end
end Go.Ai
