/- Operations by class: what they look at; those that only give; those that make one object. -/
import Derived.Test.YtmbohkdfdolkkaaGreatDoorAi3
namespace Go.Ai
open Go
section
variable {P : Program} {T : Tab} {m : Mp}

theorem evs_congr {ρ ρ' : Env} : ∀ (l : List Operand), (∀ x ∈ l, ev x ρ = ev x ρ') → evs l ρ = evs l ρ'
  | [], _ => rfl
  | x :: l, h => by
    show ev x ρ :: evs l ρ = ev x ρ' :: evs l ρ'
    rw [h x (by simp), evs_congr l fun y hy => h y (by simp [hy])]

theorem fillA_congr {ρ ρ' : Env} (place : Nat → Option (Nat × Nat)) : ∀ (l : List (Nat × Operand)), (∀ p ∈ l, ev p.2 ρ = ev p.2 ρ') → fillA place l ρ = fillA place l ρ'
  | [], _ => rfl
  | p :: l, h => by
    have e : ∀ ρ cs, fillA place (p :: l) ρ cs = Option.casesOn (motive := fun _ => Option (List AV)) (place p.1) none (fun q =>
      cond (cond (Nat.beq (llen (ev p.2 ρ).cells) q.2) (cond (Nat.ble (Nat.add q.1 q.2) (llen cs)) (lall AV.single (ev p.2 ρ).cells) false) false)
        (fillA place l ρ (lput cs q.1 (ev p.2 ρ).cells)) none) := fun _ _ => rfl
    funext cs
    rw [e, e, h p (by simp), fillA_congr place l fun y hy => h y (by simp [hy])]

theorem bound_congr {α : Type} {ρ ρ' : Env} (d : α) (x : Option Operand) (e : Nat) (f : Nat → α) (h : ∀ y, x = some y → ev y ρ = ev y ρ') : bound d x e ρ f = bound d x e ρ' f := by
  cases x with
  | none => rfl
  | some y => show natOf d f (ev y ρ) = natOf d f (ev y ρ'); rw [h y rfl]

theorem opA_congr {ρ ρ' : Env} (op : Op) (H : Heap) (h : ∀ x ∈ opnds op, ev x ρ = ev x ρ') : opA op T ρ H = opA op T ρ' H := by
  cases op with
  | move x => have h1 := h x (by simp [opnds]); dsimp only [opA]; rw [h1]
  | assign x => have h1 := h x (by simp [opnds]); dsimp only [opA]; rw [h1]
  | pick c a b => have h1 := h c (by simp [opnds]); have h2 := h a (by simp [opnds]); have h3 := h b (by simp [opnds]); dsimp only [opA]; rw [h1, h2, h3]
  | alloc e => rfl
  | box e x => have h1 := h x (by simp [opnds]); dsimp only [opA]; rw [h1]
  | build t ps =>
    have : ∀ p ∈ ps.toList, ev p.2 ρ = ev p.2 ρ' := fun p hp => h p.2 (by
      show p.2 ∈ lmap (fun p => p.2) ps.toList
      rw [lmap_eq]; exact List.mem_map.2 ⟨p, hp, rfl⟩)
    dsimp only [opA]
    simp only [fillA_congr _ _ this]
  | buildSlice t n ps =>
    have : ∀ p ∈ ps.toList, ev p.2 ρ = ev p.2 ρ' := fun p hp => h p.2 (by
      show p.2 ∈ lmap (fun p => p.2) ps.toList
      rw [lmap_eq]; exact List.mem_map.2 ⟨p, hp, rfl⟩)
    dsimp only [opA]
    simp only [fillA_congr _ _ this]
  | load t a => have h1 := h a (by simp [opnds]); dsimp only [opA]; rw [h1]
  | store t a x => have h1 := h a (by simp [opnds]); have h2 := h x (by simp [opnds]); dsimp only [opA]; rw [h1, h2]
  | nilCheck x => have h1 := h x (by simp [opnds]); dsimp only [opA]; rw [h1]
  | binOp op t x y yt => have h1 := h x (by simp [opnds]); have h2 := h y (by simp [opnds]); dsimp only [opA]; rw [h1, h2]
  | unOp op t x => have h1 := h x (by simp [opnds]); dsimp only [opA]; rw [h1]
  | convert s d x => have h1 := h x (by simp [opnds]); dsimp only [opA]; rw [h1]
  | makeFunc fn first captured =>
    have h1 : ∀ x ∈ first.toList, ev x ρ = ev x ρ' := fun x hx => h x (by show x ∈ lapp _ _; rw [lapp_eq]; exact List.mem_append_left _ hx)
    have h2 : ∀ x ∈ captured.toList, ev x ρ = ev x ρ' := fun x hx => h x (by show x ∈ lapp _ _; rw [lapp_eq]; exact List.mem_append_right _ hx)
    dsimp only [opA]
    rw [evs_congr _ h1, evs_congr _ h2]
  | makeSlice t l c => have h1 := h l (by simp [opnds]); have h2 := h c (by simp [opnds]); dsimp only [opA]; rw [h1, h2]
  | slice t x lo hi mx =>
    have h1 := h x (List.mem_cons_self)
    have h2 : ∀ y, lo = some y → ev y ρ = ev y ρ' := fun y e => h y (by subst e; exact List.mem_cons_of_mem _ List.mem_cons_self)
    have h3 : ∀ y, hi = some y → ev y ρ = ev y ρ' := fun y e => h y (by subst e; refine List.mem_cons_of_mem _ ?_; rw [lapp_eq]; refine List.mem_append_right _ ?_; rw [lapp_eq]; exact List.mem_append_left _ List.mem_cons_self)
    have h4 : ∀ y, mx = some y → ev y ρ = ev y ρ' := fun y e => h y (by subst e; refine List.mem_cons_of_mem _ ?_; rw [lapp_eq]; refine List.mem_append_right _ ?_; rw [lapp_eq]; exact List.mem_append_right _ List.mem_cons_self)
    dsimp only [opA]
    unfold sliceA
    rw [h1]
    simp only [bound_congr _ _ _ _ h2, bound_congr _ _ _ _ h3, bound_congr _ _ _ _ h4]
  | fieldAddr t x f => have h1 := h x (by simp [opnds]); dsimp only [opA]; rw [h1]
  | field t x f => have h1 := h x (by simp [opnds]); dsimp only [opA]; rw [h1]
  | indexAddr t x i => have h1 := h x (by simp [opnds]); have h2 := h i (by simp [opnds]); dsimp only [opA]; rw [h1, h2]
  | index t x i => have h1 := h x (by simp [opnds]); have h2 := h i (by simp [opnds]); dsimp only [opA]; rw [h1, h2]
  | lookup t x k ok => have h1 := h x (by simp [opnds]); have h2 := h k (by simp [opnds]); dsimp only [opA]; rw [h1, h2]
  | mapUpdate t a k v => have h1 := h a (by simp [opnds]); have h2 := h k (by simp [opnds]); have h3 := h v (by simp [opnds]); dsimp only [opA]; rw [h1, h2, h3]
  | extract t i => have h1 := h t (by simp [opnds]); dsimp only [opA]; rw [h1]
  | call c =>
    obtain ⟨callee, as, ats⟩ := c
    dsimp only [opA]
    cases callee with
    | value f =>
      have h1 := h f List.mem_cons_self
      have h2 : ∀ x ∈ as.toList, ev x ρ = ev x ρ' := fun x hx => h x (List.mem_cons_of_mem _ hx)
      dsimp only [callOp]
      rw [h1, evs_congr _ h2]
    | invoke _ _ => rfl
    | builtin b =>
      have h2 : ∀ x ∈ as.toList, ev x ρ = ev x ρ' := fun x hx => h x hx
      dsimp only [callOp]
      rw [evs_congr _ h2]
  | _ => rfl

theorem opB_congr {ρ ρ' : Env} (op : Op) (H : Heap) (h : ∀ x ∈ opnds op, ev x ρ = ev x ρ') : opB op T ρ H = opB op T ρ' H := by
  unfold opB; rw [opA_congr op H h]
end
end Go.Ai
