/- The frame rule: a call that was run in empty memory says what it does in any. -/
import Derived.Test.YtmbohkdfdolkkaaGreatDoorAiD6
namespace Go.Ai
open Go

/-- A value that speaks of no object. -/
def Free (v : AV) : Prop := ∀ m m' v', VR m v v' → VR m' v v'
theorem Free.bool (b : Bool) : Free (.bool b) := fun _ _ _ h => by cases h; exact .bool b
theorem Free.int (k : IntKind) (n : Int) : Free (.int k n) := fun _ _ _ h => by cases h; exact .int k n
theorem Free.str (s : List UInt8) : Free (.str s) := fun _ _ _ h => by cases h; exact .str _
theorem Free.ptr0 : Free .ptr0 := fun _ _ _ h => by cases h; exact .ptr0
theorem Free.sl0 : Free .sl0 := fun _ _ _ h => by cases h; exact .sl0
def Frees (l : List AV) : Prop := ∀ m m' l', VRs m l l' → VRs m' l l'
theorem Frees.nil : Frees [] := fun _ _ _ h => by cases h; exact .nil
theorem Frees.cons {a : AV} {l : List AV} (h : Free a) (t : Frees l) : Frees (a :: l) := fun m m' l' g => by
  cases g with
  | cons g1 g2 => exact .cons (h m m' _ g1) (t m m' _ g2)
theorem Free.tup {l : List AV} (h : Frees l) : Free (.tup l) := fun m m' _ g => by
  cases g with
  | tup g => exact .tup (h m m' _ g)
theorem Free.agg {l : List AV} (h : Frees l) : Free (.agg l) := fun m m' _ g => by
  cases g with
  | agg g => exact .agg (h m m' _ g)

/-- Empty memory. -/
noncomputable def Hn : Heap := ⟨.e, .e, 0⟩
def mn : Mp := fun _ => none

theorem obj_n (o : Nat) : Hn.obj o = .none := rfl
theorem Rel.empty (w : World) : Rel mn Hn w :=
  ⟨fun _ _ h => (by cases h), fun _ _ _ h => (by cases h), fun _ _ _ _ _ h => (by cases h), fun _ _ _ _ _ h => (by cases h), fun _ _ _ _ _ h => (by cases h), fun _ _ _ _ _ _ _ _ _ h => (by cases h), fun _ _ _ _ h => (by cases h), fun _ _ _ _ _ _ _ h => (by cases h)⟩
theorem HW.empty : HW Hn := ⟨fun o h => absurd rfl h, fun o cs c s h => (by cases h), fun o cs c s h => (by cases h)⟩

theorem Rel.blocks {m : Mp} {H : Heap} {w w' : World} (h : Rel m H w) (hb : ∀ b, b < w.heap.size → w'.heap[b]? = w.heap[b]?) (hs : w.heap.size ≤ w'.heap.size) : Rel m H w' := by
  have hc : ∀ b, b < w.heap.size → ∀ i, w'.cell? ⟨b, i, none⟩ = w.cell? ⟨b, i, none⟩ := by
    intro b h i; simp [World.cell?, hb b h]
  refine ⟨h.dom, fun o b N hm => Nat.lt_of_lt_of_le (h.blk o b N hm) hs, ?_, ?_, h.ext, h.sep, ?_, h.mapsep⟩
  · intro o b N cs sh hm ho
    rw [hb b (h.blk o b N hm)]; exact h.cells o b N cs sh hm ho
  · intro o b N cs sh hm ho
    obtain ⟨h1, h2⟩ := h.sure o b N cs sh hm ho
    refine ⟨h1, fun i a hi => ?_⟩
    rw [hc b (h.blk o b N hm)]; exact h2 i a hi
  · intro o b N es hm ho
    rw [hb b (h.blk o b N hm)]; exact h.map o b N es hm ho

theorem Step.framed {m m' : Mp} {H H' : Heap} {w w' : World} (hr : Rel m H w) (hw : HW H) (h : Step mn Hn w m' H' w') : Step m H w m H w' := by
  have hb : ∀ b, b < w.heap.size → w'.heap[b]? = w.heap[b]? := fun b hb => h.frame b hb fun o N e => by cases e
  exact ⟨hr.blocks hb h.size, hw, m.le_refl, fun _ _ _ h => .inl h, fun b hlt _ => hb b hlt, h.size, Nat.le_refl _, h.os, h.tape, h.output, ⟨fun _ _ _ => rfl, fun _ _ h => ⟨rfl, h⟩⟩, fun o b N cs sh hm hc _ => ⟨hc, hb b (hr.blk o b N hm)⟩⟩

/-- THE FRAME RULE. -/
theorem frame_rule {P : Program} {call : Caller} (hc : CallerOk P call) {f : FuncId} {args : List AV} {v : AV} {H' : Heap} (h : call f args Hn = .ok v H') (ha : Frees args) (hv : Free v) :
    ∀ (m : Mp) (H : Heap) (w : World) (args' : Array Value), Rel m H w → HW H → VRs m args args'.toList → Calls P f args' w (Post m H w v H) := by
  intro m H w args' hr hw hargs
  refine (hc f args Hn v H' h mn w args' (.empty w) .empty (ha m mn _ hargs)).mono ?_
  intro e w' hp
  rcases hp with hp | ⟨v', m', rfl, h1, h2⟩
  · exact .inl hp
  · exact .inr ⟨v', m, rfl, hv m' m v' h1, h2.framed hr hw⟩
end Go.Ai
