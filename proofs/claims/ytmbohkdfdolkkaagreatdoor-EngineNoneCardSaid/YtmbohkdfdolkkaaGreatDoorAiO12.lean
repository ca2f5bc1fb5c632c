/- Calls; every operation. -/
import Derived.Test.YtmbohkdfdolkkaaGreatDoorAiO11
namespace Go.Ai
open Go
section
variable {P : Program} {T : Tab} {m : Mp}

/-- What an operation's answer means. -/
def Sound (P : Program) (T : Tab) (m : Mp) (H : Heap) (w : World) (s : Sem Next) : OR → Prop
  | .fail => True
  | .val v H' => ∃ v' w' m', s.run P w = .ok (.value v') w' ∧ VR m' v v' ∧ Step m H w m' H' w'
  | .skip H' => ∃ w' m', s.run P w = .ok .skip w' ∧ Step m H w m' H' w'
  | .call f args H' => H' = H ∧ (∃ nt rs c, T.fn f = .some nt rs c) ∧ ∃ args', s.run P w = .ok (.enter f args') w ∧ VRs m args args'.toList

theorem args1_cases {α : Type} {d r : α} {f : AV → α} {l : List AV} (h : args1 d f l = r) (hr : r ≠ d) : ∃ x, l = [x] ∧ f x = r := by
  match l, h with
  | [], h => exact absurd h.symm hr
  | [x], h => exact ⟨x, rfl, h⟩
  | _ :: _ :: _, h => exact absurd h.symm hr
theorem args2_cases {α : Type} {d r : α} {f : AV → AV → α} {l : List AV} (h : args2 d f l = r) (hr : r ≠ d) : ∃ x y, l = [x, y] ∧ f x y = r := by
  match l, h with
  | [], h => exact absurd h.symm hr
  | [_], h => exact absurd h.symm hr
  | [x, y], h => exact ⟨x, y, rfl, h⟩
  | _ :: _ :: _ :: _, h => exact absurd h.symm hr

theorem vrs_one {x : AV} {a : Array Value} (h : VRs m [x] a.toList) : ∃ x', a = #[x'] ∧ VR m x x' := by
  obtain ⟨l⟩ := a
  cases h with
  | cons h t => cases t; exact ⟨_, rfl, h⟩
theorem vrs_two {x y : AV} {a : Array Value} (h : VRs m [x, y] a.toList) : ∃ x' y', a = #[x', y'] ∧ VR m x x' ∧ VR m y y' := by
  obtain ⟨l⟩ := a
  cases h with
  | cons h t => cases t with
    | cons h2 t => cases t; exact ⟨_, _, rfl, h, h2⟩

def bsem (b : Builtin) (ts : Array TypeId) (ty : TypeId) (args : Array Value) : BK → Sem Value
  | .len => Builtin.len_ ts ty args | .cap => Builtin.cap_ ts ty args | .append => Builtin.append_ ts ty args | .copy => Builtin.copy_ ts ty args | .clear => Builtin.clear_ ts ty args
  | .delete => Builtin.delete_ ts ty args | .min => Builtin.min_ ts ty args | .max => Builtin.max_ ts ty args | .other => stuck ""

theorem bsem_eq {b : Builtin} (ts : Array TypeId) (ty : TypeId) (cs : Array Bool) (args : Array Value) (h : bk b ≠ .other) : builtin b ts ty cs args = (do pure (.value (← bsem b ts ty args (bk b)))) := by
  cases b <;> first | rfl | exact absurd rfl h

theorem min0 (y : AV) : minA .bad y = .bad := rfl
theorem max0 (y : AV) : maxA .bad y = .bad := rfl

theorem builtin_sound (hT : Fits T P) {H : Heap} {w : World} (hr : Rel m H w) (hw : HW H) (b : Builtin) {ts : Array TypeId} (ty : TypeId) {l : List AV} {args : Array Value} (ha : VRs m l args.toList) {k : BK} {v : AV} {H' : Heap} (h : builtinA k T ts.toList l H = .val v H') :
    Gives P m H w (bsem b ts ty args k) v H' := by
  cases k with
  | len =>
    obtain ⟨x, rfl, h1⟩ := args1_cases (d := OR.fail) h (by simp)
    obtain ⟨t, rest, hts, h2⟩ := list_cases h1 (by simp)
    obtain ⟨x', rfl, hx⟩ := vrs_one ha
    exact len_sound (ty := ty) hT hr hw (first_of hts) hx h2
  | cap =>
    obtain ⟨x, rfl, h1⟩ := args1_cases (d := OR.fail) h (by simp)
    obtain ⟨t, rest, hts, h2⟩ := list_cases h1 (by simp)
    obtain ⟨x', rfl, hx⟩ := vrs_one ha
    exact cap_sound (ty := ty) hT hr hw (first_of hts) hx h2
  | append =>
    obtain ⟨x, y, rfl, h1⟩ := args2_cases (d := OR.fail) h (by simp)
    obtain ⟨x', y', rfl, hx, hy⟩ := vrs_two ha
    exact append_sound (ty := ty) hT hr hw hx hy h1
  | copy =>
    obtain ⟨x, y, rfl, h1⟩ := args2_cases (d := OR.fail) h (by simp)
    obtain ⟨x', y', rfl, hx, hy⟩ := vrs_two ha
    exact copy_sound (ty := ty) hT hr hw hx hy h1
  | clear =>
    obtain ⟨x, rfl, h1⟩ := args1_cases (d := OR.fail) h (by simp)
    obtain ⟨x', rfl, hx⟩ := vrs_one ha
    exact clear_sound (ty := ty) hT hr hw hx h1
  | delete =>
    obtain ⟨x, y, rfl, h1⟩ := args2_cases (d := OR.fail) h (by simp)
    obtain ⟨t, rest, hts, h2⟩ := list_cases h1 (by simp)
    obtain ⟨x', y', rfl, hx, hy⟩ := vrs_two ha
    exact delete_sound (ty := ty) hT hr hw (first_of hts) hx hy h2
  | min =>
    obtain ⟨x, ys, rfl, h1⟩ := list_cases (d := OR.fail) h (by simp)
    obtain ⟨h1, h2, h3⟩ := OR.of_val h1
    subst h1; subst h2
    obtain ⟨as⟩ := args
    cases ha with
    | cons hx ht =>
      have := foldA_sound (P := P) (g := Builtin.min2) min0 (fun _ _ _ _ hx hy hn => minA_sound hx hy hn) ys _ x _ ht hx h3
      exact this.gives hr hw
  | max =>
    obtain ⟨x, ys, rfl, h1⟩ := list_cases (d := OR.fail) h (by simp)
    obtain ⟨h1, h2, h3⟩ := OR.of_val h1
    subst h1; subst h2
    obtain ⟨as⟩ := args
    cases ha with
    | cons hx ht =>
      have := foldA_sound (P := P) (g := Builtin.max2) max0 (fun _ _ _ _ hx hy hn => maxA_sound hx hy hn) ys _ x _ ht hx h3
      exact this.gives hr hw
  | other => cases h

theorem builtinA_other {T : Tab} {ts : List TypeId} {l : List AV} {H : Heap} : builtinA .other T ts l H = .fail := rfl

theorem onFn_cases {α : Type} {d r : α} {f : FuncId → List AV → List AV → α} {v : AV} (h : onFn d f v = r) (hr : r ≠ d) : ∃ g a b, v = .fn g a b ∧ f g a b = r := by
  cases v <;> first | exact ⟨_, _, _, rfl, h⟩ | exact absurd h.symm hr

theorem fi_cases {d r : OR} {x : FI} {f : Nat → List ResultVar → Code → OR} {g : Bool → OR} (h : FI.casesOn (motive := fun _ => OR) x d f g = r) (hr : r ≠ d) :
    (∃ nt rs c, x = .some nt rs c ∧ f nt rs c = r) ∨ ∃ to, x = .bits to ∧ g to = r := by
  cases x with
  | none => exact absurd h.symm hr
  | some nt rs c => exact .inl ⟨nt, rs, c, rfl, h⟩
  | bits to => exact .inr ⟨to, rfl, h⟩

theorem gives_value {H H' : Heap} {w : World} {s : Sem Value} {v : AV} (h : Gives P m H w s v H') :
    ∃ v' w' m', (do pure (Next.value (← s)) : Sem Next).run P w = .ok (.value v') w' ∧ VR m' v v' ∧ Step m H w m' H' w' := by
  obtain ⟨v', w', m', h1, h2, h3⟩ := h
  exact ⟨v', w', m', by simp [h1], h2, h3⟩
theorem does_skip {H H' : Heap} {w : World} {s : Sem Unit} (h : Does P m H w s H') :
    ∃ w' m', (do s; pure Next.skip : Sem Next).run P w = .ok .skip w' ∧ Step m H w m' H' w' := by
  obtain ⟨w', m', h1, h3⟩ := h
  exact ⟨w', m', by simp [h1], h3⟩

theorem bitsOf_sound {H H' : Heap} {w : World} (hr : Rel m H w) (hw : HW H) {to : Bool} {l : List AV} {args : Array Value} (ha : VRs m l args.toList) {v : AV} (h : bitsOf to l H = .val v H') :
    Gives P m H w (cond to (Extern.MathFloatBits.float64bits args) (Extern.MathFloatBits.float64frombits args)) v H' := by
  obtain ⟨x, rfl, h1⟩ := args1_cases (d := OR.fail) h (by simp)
  obtain ⟨x', rfl, hx⟩ := vrs_one ha
  cases to with
  | true =>
    cases hx <;> try (cases h1; done)
    rename_i k b
    have h1 : cond (fkeq k .f64) (OR.val (.int .u64 (.ofNat b)) H) .fail = .val v H' := h1
    obtain ⟨hk, h2⟩ := cond_cases (d := OR.fail) h1 (by simp)
    rw [fkeq_eq] at hk
    have hk := of_decide_eq_true hk
    subst hk
    cases h2
    exact ⟨_, w, m, rfl, .int _ _, .refl hr hw⟩
  | false =>
    obtain ⟨k, n, rfl, h2⟩ := onInt_cases (d := OR.fail) h1 (by simp)
    obtain ⟨hk, h3⟩ := cond_cases (d := OR.fail) h2 (by simp)
    rw [keq_eq] at hk
    have hk := of_decide_eq_true hk
    subst hk
    cases n with
    | negSucc n => cases h3
    | ofNat n =>
      cases h3
      cases hx
      exact ⟨_, w, m, rfl, .float _ _, .refl hr hw⟩

theorem bitsOf_val {to : Bool} {l : List AV} {H : Heap} : bitsOf to l H = .fail ∨ ∃ v, bitsOf to l H = .val v H := by
  match l with
  | [] => exact .inl rfl
  | _ :: _ :: _ => exact .inl rfl
  | [x] =>
    cases to with
    | true =>
      cases x <;> try (exact .inl rfl)
      rename_i k b
      cases k <;> first | exact .inl rfl | exact .inr ⟨_, rfl⟩
    | false =>
      cases x <;> try (exact .inl rfl)
      rename_i k n
      cases k <;> cases n <;> first | exact .inl rfl | exact .inr ⟨_, rfl⟩

theorem callOp_sound (hT : Fits T P) {H : Heap} {w : World} (hr : Rel m H w) (hw : HW H) {ρ : Env} {σ : Operand → Value} (hσ : ∀ x, VR m (ev x ρ) (σ x)) (c : Call) (ty : TypeId) :
    Sound P T m H w (do let d ← resolve σ c ty; invoke d.target d.args) (callOp c T ρ H) := by
  obtain ⟨callee, as, ats⟩ := c
  have hargs : VRs m (evs as.toList ρ) (as.map σ).toList := by rw [Array.toList_map]; exact VRs.evs hσ _
  cases callee with
  | value f =>
    generalize hr0 : callOp ⟨.value f, as, ats⟩ T ρ H = r
    by_cases hrf : r = .fail
    · subst hrf; trivial
    have h : onFn .fail (fun f first captured => FI.casesOn (motive := fun _ => OR) (T.fn f) .fail
      (fun _ _ _ => .call f (lapp first (lapp (evs as.toList ρ) captured)) H)
      (fun to => bitsOf to (lapp first (lapp (evs as.toList ρ) captured)) H)) (ev f ρ) = r := hr0
    obtain ⟨g, first, captured, hf, h1⟩ := onFn_cases h hrf
    have hf' := hσ f
    rw [hf] at hf'
    generalize hs : σ f = s at hf'
    cases hf' with
    | fn _ h2 h3 =>
      rename_i first' captured'
      have hall : VRs m (lapp first (lapp (evs as.toList ρ) captured)) (first' ++ as.map σ ++ captured').toList := by
        rw [lapp_eq, lapp_eq]
        have := h2.append (hargs.append h3)
        simpa using this
      have hrun : (do let d ← resolve σ ⟨.value f, as, ats⟩ ty; invoke d.target d.args : Sem Next) = callFunc g (first' ++ as.map σ ++ captured') := by
        simp [resolve, Deferred.ofValue, hs, invoke]
      rw [hrun]
      rcases fi_cases h1 hrf with ⟨nt, rs, c, hc, h4⟩ | ⟨to, hc, h4⟩
      · subst h4
        obtain ⟨fn, e1, e2, e3, e4, e5⟩ := hT.fn g nt rs c hc
        refine ⟨rfl, ⟨nt, rs, c, hc⟩, _, ?_, hall⟩
        have h1 : fn.name ≠ "runtime.NumGoroutine" := by simpa using e5
        simp [callFunc, e1, h1, e4]
      · rcases bitsOf_val (to := to) (l := lapp first (lapp (evs as.toList ρ) captured)) (H := H) with h5 | ⟨v, h5⟩
        · rw [h5] at h4; exact absurd h4.symm hrf
        · rw [h5] at h4
          subst h4
          obtain ⟨v', w', m', e1, e2, e3⟩ := bitsOf_sound (P := P) hr hw hall h5
          exact ⟨v', w', m', by rw [hT.bits g to hc, e1]; rfl, e2, e3⟩
  | invoke _ _ => trivial
  | builtin b =>
    have h0 : callOp ⟨.builtin b, as, ats⟩ T ρ H = OR.casesOn (motive := fun _ => OR) (builtinA (bk b) T ats.toList (evs as.toList ρ) H) .fail (fun v H => .val v H) (fun _ => .fail) (fun _ _ _ => .fail) := rfl
    by_cases ho : bk b = .other
    · rw [h0, ho]; trivial
    have hrun : (do let d ← resolve σ ⟨.builtin b, as, ats⟩ ty; invoke d.target d.args : Sem Next) =
        (do let v ← bsem b ats ty (as.map σ) (bk b); pure (.value v)) := by
      simp only [resolve, pure_bind, invoke]
      exact bsem_eq _ _ _ _ ho
    rw [hrun, h0]
    cases hb : builtinA (bk b) T ats.toList (evs as.toList ρ) H with
    | val v H' => exact gives_value (builtin_sound hT hr hw b ty hargs hb)
    | _ => trivial
end
end Go.Ai
