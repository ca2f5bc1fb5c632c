/- Code; calls. -/
import Derived.Test.YtmbohkdfdolkkaaGreatDoorAiE2
namespace Go.Ai
open Go
section
variable {P : Program} {T : Tab} {m : Mp}

def DrawOk (P : Program) (draw : List Oper → Env → Heap → ER) : Prop :=
  ∀ (id : Nat) (ops : Array Oper) (ρ : Env) (H : Heap) (r : ER), draw ops.toList ρ H = r → r ≠ .fail → ∀ (m : Mp) (w : World) (a : Act), Rel m H w → HW H → EnvR m ρ a →
    (Code.region id ops true).wp P (Ends m H w r) a w

theorem wantedA_any {α : Type} (d yes no : α) (g : Option (Nat × Bool)) (ops : List Oper) (ρ : Env) : wantedA d yes no g ops ρ = d ∨ wantedA d yes no g ops ρ = yes ∨ wantedA d yes no g ops ρ = no := by
  unfold wantedA
  cases g with
  | none => exact .inr (.inl rfl)
  | some jw =>
    obtain ⟨j, want⟩ := jw
    show (Option.casesOn (motive := fun _ => α) (dstOf ops j) no fun t => (ρ.get undefA t).onGuard d no fun b => cond b (cond want yes no) (cond want no yes)) = d ∨ (Option.casesOn (motive := fun _ => α) (dstOf ops j) no fun t => (ρ.get undefA t).onGuard d no fun b => cond b (cond want yes no) (cond want no yes)) = yes ∨ (Option.casesOn (motive := fun _ => α) (dstOf ops j) no fun t => (ρ.get undefA t).onGuard d no fun b => cond b (cond want yes no) (cond want no yes)) = no
    cases dstOf ops j with
    | none => exact .inr (.inr rfl)
    | some t =>
      show ((ρ.get undefA t).onGuard d no fun b => cond b (cond want yes no) (cond want no yes)) = d ∨ ((ρ.get undefA t).onGuard d no fun b => cond b (cond want yes no) (cond want no yes)) = yes ∨ ((ρ.get undefA t).onGuard d no fun b => cond b (cond want yes no) (cond want no yes)) = no
      cases ρ.get undefA t with
      | bad => exact .inl rfl
      | bool b => cases b <;> cases want <;> first | exact .inr (.inl rfl) | exact .inr (.inr rfl)
      | _ => exact .inr (.inr rfl)

theorem opsA_normal {call : Caller} {ops : List Oper} : ∀ (l : List Oper) (ρ : Env) (H : Heap), opsA T call ops l ρ H = .fail ∨ ∃ ρ' H', opsA T call ops l ρ H = .normal ρ' H'
  | [], ρ, H => .inr ⟨ρ, H, rfl⟩
  | o :: l, ρ, H => by
    have ih := opsA_normal (call := call) (ops := ops) l
    have e : opsA T call ops (o :: l) ρ H = wantedA ER.fail
      (OR.casesOn (motive := fun _ => ER) (opB o.op T ρ H) .fail (fun v H => opsA T call ops l (putA ρ o.dst v) H) (fun H => opsA T call ops l (putA ρ o.dst undefA) H)
        (fun f args H => KR.casesOn (motive := fun _ => ER) (call f args H) .fail (fun v H => opsA T call ops l (putA ρ o.dst v) H)))
      (opsA T call ops l (putA ρ o.dst undefA) H) o.guard ops ρ := rfl
    rw [e]
    rcases wantedA_any ER.fail
      (OR.casesOn (motive := fun _ => ER) (opB o.op T ρ H) .fail (fun v H => opsA T call ops l (putA ρ o.dst v) H) (fun H => opsA T call ops l (putA ρ o.dst undefA) H)
        (fun f args H => KR.casesOn (motive := fun _ => ER) (call f args H) .fail (fun v H => opsA T call ops l (putA ρ o.dst v) H)))
      (opsA T call ops l (putA ρ o.dst undefA) H) o.guard ops ρ with h | h | h
    · exact .inl h
    · rw [h]
      cases opB o.op T ρ H with
      | fail => exact .inl rfl
      | val v H1 => exact ih _ _
      | skip H1 => exact ih _ _
      | call f args H1 =>
        show KR.casesOn (motive := fun _ => ER) (call f args H1) .fail (fun v H => opsA T call ops l (putA ρ o.dst v) H) = .fail ∨ ∃ ρ' H', KR.casesOn (motive := fun _ => ER) (call f args H1) .fail (fun v H => opsA T call ops l (putA ρ o.dst v) H) = .normal ρ' H'
        cases call f args H1 with
        | fail => exact .inl rfl
        | ok v H2 => exact ih _ _
    · rw [h]; exact ih _ _


theorem loopA_sound {c : Code} {ex : Env → Heap → ER} (hx : ∀ ρ H r, ex ρ H = r → r ≠ .fail → ∀ m w a, Rel m H w → HW H → EnvR m ρ a → c.wp P (Ends m H w r) a w) (b : Frame) (k : List Item) (cs : List Frame) :
    ∀ (n : Nat) (ρ : Env) (H : Heap) (r : ER), loopA ex n ρ H = r → r ≠ .fail → ∀ m w a, Rel m H w → HW H → EnvR m ρ a →
      ∃ e a' w', Ends m H w r e a' w' ∧ Arrives P (lone (b.at a (.code c :: .inLoop c :: k)) cs w) b k cs e a' w' := by
  intro n
  induction n with
  | zero => intro ρ H r he hne; exact absurd he.symm hne
  | succ n ih =>
    intro ρ H r he hne m w a hr hw hρ
    have he : ER.casesOn (motive := fun _ => ER) (ex ρ H) .fail (fun ρ H => loopA ex n ρ H) (fun id ρ H => .exit id ρ H) (fun ρ H => .ret ρ H) = r := he
    have pass : ∀ {e : Exit} {a' : Act} {w' : World}, e ≠ .normal → Arrives P (lone (b.at a (.code c :: .inLoop c :: k)) cs w) b (.inLoop c :: k) cs e a' w' → Arrives P (lone (b.at a (.code c :: .inLoop c :: k)) cs w) b k cs e a' w' :=
      fun hn h => .pass (x := .inLoop c) rfl (fun _ _ => .inl hn) h
    cases hex : ex ρ H with
    | fail => rw [hex] at he; exact absurd he.symm hne
    | normal ρ' H' =>
      rw [hex] at he
      obtain ⟨e, a₁, w₁, hq, harr⟩ := hx ρ H _ hex (by simp) m w a hr hw hρ b (.inLoop c :: k) cs
      rcases hq with hq | ⟨rfl, m', h1, h2⟩
      · exact hq.elim
      · obtain ⟨e, a₂, w₂, hq₂, harr₂⟩ := ih ρ' H' r he hne m' w₁ a₁ h2.rel h2.wf h1
        exact ⟨e, a₂, w₂, hq₂.trans h2, .of_steps (Steps.trans harr (.one step_inLoop)) harr₂⟩
    | exit id ρ' H' =>
      rw [hex] at he
      subst he
      obtain ⟨e, a₁, w₁, hq, harr⟩ := hx ρ H _ hex (by simp) m w a hr hw hρ b (.inLoop c :: k) cs
      refine ⟨e, a₁, w₁, hq, pass ?_ harr⟩
      rcases hq with hq | ⟨rfl, _⟩
      · exact hq.elim
      · simp
    | ret ρ' H' =>
      rw [hex] at he
      subst he
      obtain ⟨e, a₁, w₁, hq, harr⟩ := hx ρ H _ hex (by simp) m w a hr hw hρ b (.inLoop c :: k) cs
      refine ⟨e, a₁, w₁, hq, pass ?_ harr⟩
      rcases hq with hq | ⟨rfl, _⟩
      · exact hq.elim
      · simp

theorem execA_sound (hT : Fits T P) {call : Caller} (hc : CallerOk P call) (rounds : Nat) {draw : List Oper → Env → Heap → ER} (hd : DrawOk P draw) :
    ∀ (c : Code) (ρ : Env) (H : Heap) (r : ER), execA T call rounds draw c ρ H = r → r ≠ .fail → ∀ (m : Mp) (w : World) (a : Act), Rel m H w → HW H → EnvR m ρ a → c.wp P (Ends m H w r) a w := by
  intro c
  induction c with
  | skip =>
    intro ρ H r he hne m w a hr hw hρ
    subst he
    exact wp_skip (.inr ⟨rfl, m, hρ, .refl hr hw⟩)
  | region id ops d =>
    intro ρ H r he hne m w a hr hw hρ
    cases d with
    | true => exact hd id ops ρ H r he hne m w a hr hw hρ
    | false =>
      have he : opsA T call ops.toList ops.toList ρ H = r := he
      rcases opsA_normal (T := T) (call := call) (ops := ops.toList) ops.toList ρ H with h | ⟨ρ', H', h⟩
      · rw [h] at he; exact absurd he.symm hne
      · rw [h] at he
        subst he
        refine wp_region ?_
        have := opsA_sound (P := P) hT hc ops (Q := Ends m H w (.normal ρ' H')) ops.toList 0 rfl ρ H m w a ρ' H' hr hw hρ h (fun m' a' w' h1 h2 => .inr ⟨rfl, m', h1, h2⟩)
        simpa using this
  | seq x y ihx ihy =>
    intro ρ H r he hne m w a hr hw hρ
    have he : ER.casesOn (motive := fun _ => ER) (execA T call rounds draw x ρ H) .fail (fun ρ H => execA T call rounds draw y ρ H) (fun id ρ H => .exit id ρ H) (fun ρ H => .ret ρ H) = r := he
    refine wp_seq ?_
    cases hx : execA T call rounds draw x ρ H with
    | fail => rw [hx] at he; exact absurd he.symm hne
    | normal ρ' H' =>
      rw [hx] at he
      refine wp_mono (ihx ρ H _ hx (by simp) m w a hr hw hρ) ?_
      intro e a' w' hq
      rcases hq with hq | ⟨rfl, m', h1, h2⟩
      · exact hq.elim
      · exact wp_mono (ihy ρ' H' r he hne m' w' a' h2.rel h2.wf h1) fun e a2 w2 k => k.trans h2
    | exit id ρ' H' =>
      rw [hx] at he
      subst he
      refine wp_mono (ihx ρ H _ hx (by simp) m w a hr hw hρ) ?_
      intro e a' w' hq
      rcases hq with hq | ⟨rfl, h⟩
      · exact hq.elim
      · exact .inr ⟨rfl, h⟩
    | ret ρ' H' =>
      rw [hx] at he
      subst he
      refine wp_mono (ihx ρ H _ hx (by simp) m w a hr hw hρ) ?_
      intro e a' w' hq
      rcases hq with hq | ⟨rfl, h⟩
      · exact hq.elim
      · exact .inr ⟨rfl, h⟩
  | cond x y z ihy ihz =>
    intro ρ H r he hne m w a hr hw hρ
    have he : (ev x ρ).onBool .fail (fun b => cond b (execA T call rounds draw y ρ H) (execA T call rounds draw z ρ H)) = r := he
    obtain ⟨t, ht, he⟩ := onBool_cases he hne
    have hv := hρ.ev x
    rw [ht] at hv
    generalize hs : a.eval x = x' at hv
    cases hv
    refine wp_cond hs ?_
    cases t with
    | true => exact ihy ρ H r he hne m w a hr hw hρ
    | false => exact ihz ρ H r he hne m w a hr hw hρ
  | block id c ih =>
    intro ρ H r he hne m w a hr hw hρ
    have he : ER.casesOn (motive := fun _ => ER) (execA T call rounds draw c ρ H) .fail (fun ρ H => .normal ρ H) (fun j ρ H => cond (Nat.beq j id) (.normal ρ H) (.exit j ρ H)) (fun ρ H => .ret ρ H) = r := he
    refine wp_block ?_
    cases hx : execA T call rounds draw c ρ H with
    | fail => rw [hx] at he; exact absurd he.symm hne
    | normal ρ' H' =>
      rw [hx] at he
      subst he
      refine wp_mono (ih ρ H _ hx (by simp) m w a hr hw hρ) ?_
      intro e a' w' hq
      rcases hq with hq | ⟨rfl, h⟩
      · exact hq.elim
      · exact .inr ⟨rfl, h⟩
    | exit j ρ' H' =>
      rw [hx] at he
      subst he
      refine wp_mono (ih ρ H _ hx (by simp) m w a hr hw hρ) ?_
      intro e a' w' hq
      rcases hq with hq | ⟨rfl, h⟩
      · exact hq.elim
      · show if j = id then _ else _
        by_cases hj : j = id
        · rw [if_pos hj]
          show Ends m H w (cond (Nat.beq j id) (.normal ρ' H') (.exit j ρ' H')) _ _ _
          rw [beq_t hj]
          exact .inr ⟨rfl, h⟩
        · rw [if_neg hj]
          show Ends m H w (cond (Nat.beq j id) (.normal ρ' H') (.exit j ρ' H')) _ _ _
          rw [beq_f hj]
          exact .inr ⟨rfl, h⟩
    | ret ρ' H' =>
      rw [hx] at he
      subst he
      refine wp_mono (ih ρ H _ hx (by simp) m w a hr hw hρ) ?_
      intro e a' w' hq
      rcases hq with hq | ⟨rfl, h⟩
      · exact hq.elim
      · exact .inr ⟨rfl, h⟩
  | loop c ih =>
    intro ρ H r he hne m w a hr hw hρ b k cs
    have he : loopA (execA T call rounds draw c) rounds ρ H = r := he
    obtain ⟨e, a', w', hq, harr⟩ := loopA_sound ih b k cs rounds ρ H r he hne m w a hr hw hρ
    exact ⟨e, a', w', hq, .of_steps (.one step_loop) harr⟩
  | exit id =>
    intro ρ H r he hne m w a hr hw hρ
    subst he
    exact wp_exit (.inr ⟨rfl, m, hρ, .refl hr hw⟩)
  | ret =>
    intro ρ H r he hne m w a hr hw hρ
    subst he
    exact wp_ret (.inr ⟨rfl, m, hρ, .refl hr hw⟩)
  | _ =>
    intro ρ H r he hne
    exact absurd he.symm hne

/-- Answers told ahead. -/
def SumsOk (P : Program) (S : Sums) : Prop :=
  (∀ f args H v H', S f args H = .ok v H' → ∀ m w args', Rel m H w → HW H → VRs m args args'.toList → Calls P f args' w (Post m H w v H'))

theorem callA_sound (hT : Fits T P) {S : Sums} (hS : SumsOk P S) (rounds : Nat) {draw : Caller → List Oper → Env → Heap → ER} (hd : ∀ call, CallerOk P call → DrawOk P (draw call)) :
    ∀ n, CallerOk P (callA T S rounds draw n) := by
  intro n
  induction n with
  | zero => intro f args H v H' h; cases h
  | succ n ih =>
    intro f args H v H' h m w args' hr hw ha
    have h : SR.casesOn (motive := fun _ => KR) (S f args H)
      (FI.casesOn (motive := fun _ => KR) (T.fn f) .fail
        (fun ntmps rs c => ER.casesOn (motive := fun _ => KR) (execA T (callA T S rounds draw n) rounds (draw (callA T S rounds draw n)) c (initA args (cond (Nat.ble (llen args) ntmps) ntmps (llen args))) H) .fail (fun ρ H => resultsA T rs ρ H) (fun _ _ _ => .fail) (fun ρ H => resultsA T rs ρ H))
        (fun _ => .fail))
      (fun v H => .ok v H) .fail = .ok v H' := h
    cases hs : S f args H with
    | fail => rw [hs] at h; cases h
    | ok v2 H2 =>
      rw [hs] at h
      cases h
      exact hS f args H _ _ hs m w args' hr hw ha
    | no =>
      rw [hs] at h
      cases hf : T.fn f with
      | none => rw [hf] at h; cases h
      | bits to => rw [hf] at h; cases h
      | some nt rs c =>
        rw [hf] at h
        obtain ⟨fn, e1, e2, e3, e4, e5⟩ := hT.fn f nt rs c hf
        subst e2; subst e3
        have hinit := initA_sound (m := m) ha fn.ntmps
        refine calls_of_wp e1 e4 ?_
        have h : ER.casesOn (motive := fun _ => KR) (execA T (callA T S rounds draw n) rounds (draw (callA T S rounds draw n)) c (initA args (cond (Nat.ble (llen args) fn.ntmps) fn.ntmps (llen args))) H) .fail (fun ρ H => resultsA T fn.results.toList ρ H) (fun _ _ _ => .fail) (fun ρ H => resultsA T fn.results.toList ρ H) = .ok v H' := h
        cases hex : execA T (callA T S rounds draw n) rounds (draw (callA T S rounds draw n)) c (initA args (cond (Nat.ble (llen args) fn.ntmps) fn.ntmps (llen args))) H with
        | fail => rw [hex] at h; cases h
        | exit _ _ _ => rw [hex] at h; cases h
        | normal ρ' H1 =>
          rw [hex] at h
          refine wp_mono (execA_sound hT ih rounds (hd _ ih) c _ H _ hex (by simp) m w _ hr hw hinit) ?_
          intro e a w' hq
          rcases hq with hq | ⟨rfl, m', h1, h2⟩
          · exact hq.elim
          · obtain ⟨rfl, v', h3, h4⟩ := results_sound (P := P) hT h2.rel h1 h
            exact ⟨h1.defers, v', h3, .inr ⟨v', m', rfl, h4, h2⟩⟩
        | ret ρ' H1 =>
          rw [hex] at h
          refine wp_mono (execA_sound hT ih rounds (hd _ ih) c _ H _ hex (by simp) m w _ hr hw hinit) ?_
          intro e a w' hq
          rcases hq with hq | ⟨rfl, m', h1, h2⟩
          · exact hq.elim
          · obtain ⟨rfl, v', h3, h4⟩ := results_sound (P := P) hT h2.rel h1 h
            exact ⟨h1.defers, v', h3, .inr ⟨v', m', rfl, h4, h2⟩⟩
end
end Go.Ai
