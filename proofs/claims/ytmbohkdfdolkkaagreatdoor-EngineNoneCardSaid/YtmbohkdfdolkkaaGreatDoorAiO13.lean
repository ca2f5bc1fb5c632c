/- Every operation. -/
import Derived.Test.YtmbohkdfdolkkaaGreatDoorAiO12
namespace Go.Ai
open Go
section
variable {P : Program} {T : Tab} {m : Mp}

theorem sv {H : Heap} {w : World} {s : Sem Value} {r : OR} (h : ∀ v H', r = .val v H' → Gives P m H w s v H') :
    Sound P T m H w (do let v ← s; pure (Next.value v)) (OR.casesOn (motive := fun _ => OR) r .fail (fun v H => .val v H) (fun _ => .fail) (fun _ _ _ => .fail)) := by
  cases r with
  | val v H' => exact gives_value (h v H' rfl)
  | _ => trivial
theorem ss {H : Heap} {w : World} {s : Sem Unit} {r : OR} (h : ∀ H', r = .skip H' → Does P m H w s H') :
    Sound P T m H w (do s; pure Next.skip) (OR.casesOn (motive := fun _ => OR) r .fail (fun _ _ => .fail) (fun H => .skip H) (fun _ _ _ => .fail)) := by
  cases r with
  | skip H' => exact does_skip (h H' rfl)
  | _ => trivial

theorem ofA {H : Heap} {w : World} (hr : Rel m H w) (hw : HW H) {s : Sem Value} {x : AV} (h : x = .bad ∨ Yields P m s x) : ∀ v H', OR.of x H = .val v H' → Gives P m H w s v H' := by
  intro v H' e
  obtain ⟨e1, e2, e3⟩ := OR.of_val e
  subst e1; subst e2
  rcases h with h | h
  · exact absurd h e3
  · exact h.gives hr hw

noncomputable def nilA (v : AV) (H : Heap) : OR := AV.casesOn v .fail (fun _ => .fail) (fun _ _ => .fail) (fun _ _ => .fail) (fun _ => .fail) .fail (fun o off => .val (.ptr o off) H) .fail (fun _ _ _ _ _ _ => .fail) .fail (fun _ => .fail) .fail (fun f a b => .val (.fn f a b) H) (fun _ => .fail) (fun _ => .fail)
theorem nil_eq {ρ : Env} {H : Heap} (x : Operand) : opB (.nilCheck x) T ρ H = OR.casesOn (motive := fun _ => OR) (nilA (ev x ρ) H) .fail (fun v H => .val v H) (fun _ => .fail) (fun _ _ _ => .fail) := rfl
theorem pick_eq {ρ : Env} {H : Heap} (c a b : Operand) : opB (.pick c a b) T ρ H = OR.casesOn (motive := fun _ => OR) ((ev c ρ).onBool .fail fun t => OR.of (cond t (ev a ρ) (ev b ρ)) H) .fail (fun v H => .val v H) (fun _ => .fail) (fun _ _ _ => .fail) := rfl
theorem store_eq {ρ : Env} {H : Heap} (t : TypeId) (a x : Operand) : opB (.store t a x) T ρ H = OR.casesOn (motive := fun _ => OR) (storeA T t (ev a ρ) (ev x ρ) H) .fail (fun _ _ => .fail) (fun H => .skip H) (fun _ _ _ => .fail) := rfl
theorem store_ex {σ : Operand → Value} (o : Oper) (t : TypeId) (a x : Operand) (h : o.op = .store t a x) : execOp σ o = (do Instr.storeAt t (σ a) (σ x); pure Next.skip) := by simp only [execOp, h]

theorem opB_sound (hT : Fits T P) {H : Heap} {w : World} (hr : Rel m H w) (hw : HW H) {ρ : Env} {σ : Operand → Value} (hσ : ∀ x, VR m (ev x ρ) (σ x)) (o : Oper) :
    Sound P T m H w (execOp σ o) (opB o.op T ρ H) := by
  obtain ⟨dst, op, type, pos, after, guard⟩ := o
  cases op with
  | move x => exact sv (s := pure (σ x)) (r := OR.of (ev x ρ) H) (ofA hr hw (.inr (Yields.pure (hσ x))))
  | assign x => exact sv (s := pure (σ x)) (r := OR.of (ev x ρ) H) (ofA hr hw (.inr (Yields.pure (hσ x))))
  | pick c a b =>
    show Sound P T m H w (do let t ← asBool (σ c); pure (Next.value (if t then σ a else σ b))) (opB (.pick c a b) T ρ H)
    rw [pick_eq, show (do let t ← asBool (σ c); pure (Next.value (if t then σ a else σ b)) : Sem Next) = (do let v ← (do let t ← asBool (σ c); pure (if t then σ a else σ b)); pure (Next.value v)) by simp]
    refine sv ?_
    intro v H' h
    obtain ⟨t, ht, h1⟩ := onBool_cases h (by simp)
    have := hσ c
    rw [ht] at this
    generalize σ c = c' at this
    cases this
    refine ofA hr hw (.inr ⟨if t then σ a else σ b, fun w => by simp [asBool], ?_⟩) v H' h1
    cases t
    · exact hσ b
    · exact hσ a
  | alloc elem => exact sv (r := opA (.alloc elem) T ρ H) fun v H' h => alloc_sound hT hr hw h
  | box elem x => exact sv (r := opA (.box elem x) T ρ H) fun v H' h => box_sound hr hw (hσ x) h
  | build t parts => exact sv (r := opA (.build t parts) T ρ H) fun v H' h => build_sound hT hr hw hσ h
  | buildSlice t len parts => exact sv (r := opA (.buildSlice t len parts) T ρ H) fun v H' h => buildSlice_sound hT hr hw hσ h
  | load t a => exact sv (r := loadA T t (ev a ρ) H) fun v H' h => loadA_sound hT hr hw (hσ a) h
  | store t a x => exact ss (r := storeA T t (ev a ρ) (ev x ρ) H) fun H' h => storeA_sound hT hr hw (hσ a) (hσ x) h
  | nilCheck x =>
    have hx := hσ x
    cases hv : ev x ρ with
    | ptr o off =>
      rw [hv] at hx
      generalize hs : σ x = x' at hx
      cases hx with
      | ptr off hm =>
        rename_i b N
        have h1 : opB (.nilCheck x) T ρ H = .val (.ptr o off) H := by rw [nil_eq, hv]; rfl
        show Sound P T m H w _ (opB (.nilCheck x) T ρ H)
        rw [h1]
        exact ⟨_, w, m, by simp [execOp, hs], .ptr off hm, .refl hr hw⟩
    | fn f a b =>
      rw [hv] at hx
      generalize hs : σ x = x' at hx
      cases hx with
      | fn _ ha hb =>
        have h1 : opB (.nilCheck x) T ρ H = .val (.fn f a b) H := by rw [nil_eq, hv]; rfl
        show Sound P T m H w _ (opB (.nilCheck x) T ρ H)
        rw [h1]
        exact ⟨_, w, m, by simp [execOp, hs], .fn f ha hb, .refl hr hw⟩
    | _ =>
      have h1 : opB (.nilCheck x) T ρ H = .fail := by rw [nil_eq, hv]; rfl
      show Sound P T m H w _ (opB (.nilCheck x) T ρ H)
      rw [h1]; trivial
  | binOp op t x y yt => exact sv (r := OR.of (binA T op t (ev x ρ) (ev y ρ)) H) (ofA hr hw (binA_sound hT (hσ x) (hσ y)))
  | unOp op t x => exact sv (r := OR.of (unA op (ev x ρ)) H) (ofA hr hw (unA_sound (hσ x)))
  | convert s d x => exact sv (r := convertA T s d (ev x ρ) H) fun v H' h => convert_sound hT hr hw (hσ x) h
  | makeFunc fn first captured =>
    cases fn with
    | func f =>
      refine sv (s := Instr.makeFunc (.func f) (first.map σ) (captured.map σ)) (r := .val (.fn f (evs first.toList ρ) (evs captured.toList ρ)) H) ?_
      intro v H' h
      cases h
      refine ⟨_, w, m, rfl, .fn f ?_ ?_, .refl hr hw⟩ <;> (rw [Array.toList_map]; exact VRs.evs hσ _)
    | _ => trivial
  | makeMap t r =>
    cases r with
    | none => exact sv (r := .val (.map H.next) (H.new (.map []))) fun v H' h => by cases h; exact makeMap_sound hr hw t
    | some _ => trivial
  | makeSlice t l c => exact sv (r := makeSliceA T t (ev l ρ) (ev c ρ) H) fun v H' h => makeSlice_sound hT hr hw (hσ l) (hσ c) h
  | slice t x lo hi mx => exact sv (r := sliceA T t x lo hi mx ρ H) fun v H' h => slice_sound hT hr hw hσ h
  | fieldAddr t x f => exact sv (r := fieldAddrA T t (ev x ρ) f H) fun v H' h => fieldAddr_sound hT hr hw (hσ x) h
  | field t x f => exact sv (r := fieldA T t (ev x ρ) f H) fun v H' h => field_sound hT hr hw (hσ x) h
  | indexAddr t x i => exact sv (r := indexAddrA T t (ev x ρ) (ev i ρ) H) fun v H' h => indexAddr_sound hT hr hw (hσ x) (hσ i) h
  | index t x i => exact sv (r := indexA T t (ev x ρ) (ev i ρ) H) fun v H' h => index_sound hT hr hw (hσ x) (hσ i) h
  | lookup t x k ok => exact sv (r := lookupA T t (ev x ρ) (ev k ρ) ok H) fun v H' h => lookup_sound hT hr hw (hσ x) (hσ k) h
  | mapUpdate t a k v => exact ss (r := mapUpdateA T t (ev a ρ) (ev k ρ) (ev v ρ) H) fun H' h => mapUpdate_sound hT hr hw (hσ a) (hσ k) (hσ v) h
  | extract t i =>
    refine sv (s := Instr.extract (σ t) i) (r := (ev t ρ).onTup .fail fun vs => cond (Nat.blt i (llen vs)) (OR.of (lnth .bad vs i) H) .fail) ?_
    intro v H' h
    obtain ⟨vs, hv, h1⟩ := onTup_cases h (by simp)
    obtain ⟨hl, h2⟩ := cond_cases h1 (by simp)
    have := hσ t
    rw [hv] at this
    generalize σ t = t' at this
    cases this with
    | tup hvs =>
      rename_i c
      rw [blt_iff, llen_eq] at hl
      obtain ⟨u, hu⟩ : ∃ u, vs[i]? = some u := ⟨_, List.getElem?_eq_getElem hl⟩
      obtain ⟨v', h3, h4⟩ := hvs.get hu
      have hln : lnth .bad vs i = u := by rw [lnth_eq]; simp [List.getD, hu]
      rw [hln] at h2
      refine ofA hr hw (.inr ⟨v', fun w => ?_, h4⟩) v H' h2
      rw [Array.getElem?_toList] at h3
      simp [Instr.extract, h3]
  | call c =>
    have := callOp_sound hT hr hw hσ c type
    show Sound P T m H w (do let d ← resolve σ c type; invoke d.target d.args) (OR.casesOn (motive := fun _ => OR) (callOp c T ρ H) .fail (fun v H => .val v H) (fun _ => .fail) (fun f l H => .call f l H))
    cases hc : callOp c T ρ H with
    | skip H' => trivial
    | _ => rw [hc] at this; exact this
  | _ => trivial
end
end Go.Ai
