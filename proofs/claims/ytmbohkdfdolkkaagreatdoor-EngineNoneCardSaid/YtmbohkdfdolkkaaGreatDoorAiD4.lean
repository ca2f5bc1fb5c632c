/- Objects that are told, but not made yet. -/
import Derived.Test.YtmbohkdfdolkkaaGreatDoorAiD3
namespace Go.Ai
open Go

theorem cells?_grow {H H' : Heap} (hw : HW H) (hobj : ∀ o, o < H.next → H'.obj o = H.obj o) (hcls : ∀ c, c < H.next → H'.clsOf c = H.clsOf c) {o : Nat} (ho : o < H.next) {cs : List AV} {sh : Option (Nat × Nat)}
    (h : H'.cells? o = .some cs sh) : H.cells? o = .some cs sh := by
  obtain ⟨h1, h2⟩ := cells?_some.1 h
  rw [hobj o ho] at h1
  refine cells?_some.2 ⟨h1, fun p hp => ?_⟩
  subst hp
  have := hw.clslt o cs p.1 p.2 h1
  rw [← hcls p.1 this]; exact h2 p rfl

theorem Rel.grow {m : Mp} {H H' : Heap} {w : World} (hr : Rel m H w) (hw : HW H) (hobj : ∀ o, o < H.next → H'.obj o = H.obj o) (hcls : ∀ c, c < H.next → H'.clsOf c = H.clsOf c) (hn : H.next ≤ H'.next) : Rel m H' w := by
  have lt : ∀ o p, m o = some p → o < H.next := hr.dom
  refine ⟨fun o p h => Nat.lt_of_lt_of_le (hr.dom o p h) hn, hr.blk, ?_, ?_, ?_, ?_, ?_, ?_⟩
  · intro o b N cs sh h ho
    rw [hobj o (lt _ _ h)] at ho; exact hr.cells o b N cs sh h ho
  · intro o b N cs sh h ho
    exact hr.sure o b N cs sh h (cells?_grow hw hobj hcls (lt _ _ h) ho)
  · intro o p cs c s h ho
    have h0 := cells?_grow hw hobj hcls (lt _ _ h) ho
    rw [hcls c (hw.clslt o cs c s (cells?_some.1 h0).1)]
    exact hr.ext o p cs c s h h0
  · intro o o' b N N' cs sh cs' sh' h h' hne ho ho'
    exact hr.sep o o' b N N' cs sh cs' sh' h h' hne (cells?_grow hw hobj hcls (lt _ _ h) ho) (cells?_grow hw hobj hcls (lt _ _ h') ho')
  · intro o b N es h ho
    rw [hobj o (lt _ _ h)] at ho; exact hr.map o b N es h ho
  · intro o o' b N N' es es' h h' ho ho'
    rw [hobj o (lt _ _ h)] at ho; rw [hobj o' (lt _ _ h')] at ho'
    exact hr.mapsep o o' b N N' es es' h h' ho ho'

theorem New.spec {H H' : Heap} {v : AV} (h : New H v H') (hw : HW H) : HW H' ∧ H'.next = H.next + 1 ∧ (∀ o, o < H.next → H'.obj o = H.obj o) ∧ (∀ c, c < H.next → H'.clsOf c = H.clsOf c) ∧
    (∀ cs c s, H'.obj H.next = .cells cs (some (c, s)) → c = H.next ∧ cs.length ≤ (H'.clsOf c).2) := by
  rcases h with ⟨X, hX, _, rfl⟩ | ⟨cs, rfl⟩
  · refine ⟨hw.new hX, rfl, fun o ho => by rw [obj_new, if_neg (by omega)], fun c _ => rfl, fun cs c s h => ?_⟩
    rw [obj_new, if_pos rfl] at h
    exact absurd h (hX cs (c, s))
  · refine ⟨hw.newRow cs, rfl, fun o ho => by rw [obj_newRow, if_neg (by omega)], fun c hc => by rw [clsOf_newRow, if_neg (by omega)], fun ds c s h => ?_⟩
    rw [obj_newRow, if_pos rfl] at h
    simp at h
    obtain ⟨rfl, rfl, rfl⟩ := h
    exact ⟨rfl, by rw [clsOf_newRow, if_pos rfl, llen_eq]; exact Nat.le_refl _⟩

/-- A new object that is only told. -/
theorem Step.ghost {m : Mp} {H H' : Heap} {w : World} {v : AV} (hr : Rel m H w) (hw : HW H) (h : New H v H') : Step m H w m H' w := by
  obtain ⟨h1, h2, h3, h4, h5⟩ := h.spec hw
  refine ⟨hr.grow hw h3 h4 (by omega), h1, m.le_refl, fun _ _ _ h => .inl h, fun _ _ _ => rfl, Nat.le_refl _, by omega, rfl, rfl, rfl, ⟨fun o ho _ => h3 o ho, fun c hc hl => ⟨h4 c hc, fun o p cs s ho => ?_⟩⟩, fun o b N cs sh hm hc _ => ⟨?_, rfl⟩⟩
  rotate_left
  · obtain ⟨g1, g2⟩ := cells?_some.1 hc
    have ho := hr.dom o _ hm
    refine cells?_some.2 ⟨by rw [h3 o ho]; exact g1, fun p hp => ?_⟩
    rw [h4 p.1 (hw.clslt o cs p.1 p.2 (by rw [g1, hp]))]; exact g2 p hp
  rw [h3 o (hr.dom o p ho)]
  exact hl o p cs s ho

/-- It is made. -/
theorem Step.thenReal {m₀ m : Mp} {H₀ H : Heap} {w₀ w w' : World} (h : Step m₀ H₀ w₀ m H w) {o N : Nat} {B : Obj} (h1 : H₀.next ≤ o) (h2 : o < H.next) (h3 : m o = none) (hp : Pushed w w' B)
    (hX : Fits1 m N B (H.obj o)) (hsh : ∀ cs c s, H.obj o = .cells cs (some (c, s)) → c = o ∧ cs.length ≤ (H.clsOf c).2) : Step m₀ H₀ w₀ (m.add o (w.heap.size, N)) H w' := by
  have hr := h.rel
  have hle : m.le (m.add o (w.heap.size, N)) := Mp.le_add _ h3
  have old : ∀ j p, j ≠ o → m.add o (w.heap.size, N) j = some p → m j = some p := by
    intro j p hj e; rw [Mp.add_other m _ hj] at e; exact e
  refine ⟨⟨?_, ?_, ?_, ?_, ?_, ?_, ?_, ?_⟩, h.wf, Mp.le_trans h.le hle, ?_, ?_, by rw [hp.size]; have := h.size; omega, h.next, hp.os.trans h.os, hp.tape.trans h.tape, hp.output.trans h.output,
    ⟨h.keep.obj, fun c hc hl => ⟨(h.keep.cls c hc hl).1, fun j p cs s hj hh => ?_⟩⟩, fun j b M cs sh hj hc hs => ⟨(h.ro j b M cs sh hj hc hs).1, (hp.old (hr.blk j b M (h.le _ _ hj))).trans (h.ro j b M cs sh hj hc hs).2⟩⟩
  · intro j p hj
    by_cases e : j = o
    · omega
    · exact hr.dom j p (old j p e hj)
  · intro j b M hj
    rw [hp.size]
    by_cases e : j = o
    · subst e; rw [Mp.add_same] at hj; cases hj; omega
    · have := hr.blk j b M (old j _ e hj); omega
  · intro j b M cs sh hj ho
    by_cases e : j = o
    · subst e; rw [Mp.add_same] at hj; cases hj
      rw [ho] at hX
      obtain ⟨c, e, fz, rfl, hN, hf, _, _⟩ := hX
      exact ⟨c, e, fz, hp.here, hN, fun _ => hf⟩
    · have hj0 := old j _ e hj
      obtain ⟨c, e2, fz, g1, g2, g3⟩ := hr.cells j b M cs sh hj0 ho
      exact ⟨c, e2, fz, by rw [hp.old (hr.blk j b M hj0)]; exact g1, g2, g3⟩
  · intro j b M cs sh hj ho
    by_cases e : j = o
    · subst e; rw [Mp.add_same] at hj; cases hj
      rw [(cells?_some.1 ho).1] at hX
      obtain ⟨c, e, fz, rfl, hN, hf, hl, hv⟩ := hX
      refine ⟨hl, fun i a hi => ?_⟩
      obtain ⟨v, g1, g2⟩ := hv i a hi
      exact ⟨v, by rw [cell?_of hp.here]; exact g1, g2.mono hle⟩
    · have hj0 := old j _ e hj
      obtain ⟨g1, g2⟩ := hr.sure j b M cs sh hj0 ho
      refine ⟨g1, fun i a hi => ?_⟩
      obtain ⟨v, k1, k2⟩ := g2 i a hi
      exact ⟨v, by rw [hp.cell (hr.blk j b M hj0)]; exact k1, k2.mono hle⟩
  · intro j p cs c s hj ho
    by_cases e : j = o
    · subst e; exact (hsh cs c s (cells?_some.1 ho).1).2
    · exact hr.ext j p cs c s (old j _ e hj) ho
  · intro j j' b M M' cs sh cs' sh' hj hj' hne ho ho'
    by_cases e : j = o
    · subst e; rw [Mp.add_same] at hj; cases hj
      have := hr.blk j' _ M' (old j' _ (Ne.symm hne) hj')
      omega
    · by_cases e' : j' = o
      · subst e'; rw [Mp.add_same] at hj'; cases hj'
        have := hr.blk j _ M (old j _ e hj)
        omega
      · exact hr.sep j j' b M M' cs sh cs' sh' (old j _ e hj) (old j' _ e' hj') hne ho ho'
  · intro j b M es hj ho
    by_cases e : j = o
    · subst e; rw [Mp.add_same] at hj; cases hj
      rw [ho] at hX
      obtain ⟨l, clk, rfl, hh, hst⟩ := hX
      exact ⟨l, clk, hp.here, hh.mono hle, hst⟩
    · have hj0 := old j _ e hj
      obtain ⟨l, clk, g1, g2, g3⟩ := hr.map j b M es hj0 ho
      exact ⟨l, clk, by rw [hp.old (hr.blk j b M hj0)]; exact g1, g2.mono hle, g3⟩
  · intro j j' b M M' es es' hj hj' ho ho'
    by_cases e : j = o
    · subst e; rw [Mp.add_same] at hj; cases hj
      by_cases e' : j' = j
      · exact e'.symm
      · have := hr.blk j' _ M' (old j' _ e' hj'); omega
    · by_cases e' : j' = o
      · subst e'; rw [Mp.add_same] at hj'; cases hj'
        have := hr.blk j _ M (old j _ e hj); omega
      · exact hr.mapsep j j' b M M' es es' (old j _ e hj) (old j' _ e' hj') ho ho'
  · intro j b M hj
    by_cases e : j = o
    · subst e; rw [Mp.add_same] at hj; cases hj; exact .inr ⟨h1, .inl h.size⟩
    · exact h.fresh j b M (old j _ e hj)
  · intro b hb hm
    have := h.size
    rw [hp.old (by omega)]; exact h.frame b hb hm
  · by_cases e : j = o
    · subst e
      have := (hsh cs c s hh).1
      omega
    · exact (h.keep.cls c hc hl).2 j p cs s (old j p e hj) hh

section
variable {T : Tab} {call : Caller} {l : List Oper} {anc wr : TT Nat} {ρ0 ρF : Env} {HF : Heap}

/-- An object that is told but not made. -/
structure Phantom (T : Tab) (base : Nat) (m : Mp) (H : Heap) (x : Ent) : Prop where
  low : base ≤ x.H.next
  lt : x.H.next < H.next
  out : m x.H.next = none
  made : ∃ H', opB x.o.op T x.ρ x.H = .val x.v H' ∧ H'.obj x.H.next = H.obj x.H.next
  cls : ∀ cs c s, H.obj x.H.next = .cells cs (some (c, s)) → c = x.H.next ∧ cs.length ≤ (H.clsOf c).2
  lone : Lone m H x.H.next

theorem Phantom.step {base : Nat} {m m' : Mp} {H H' : Heap} {w w' : World} {x : Ent} (h : Phantom T base m H x) (hs : Step m H w m' H' w') : Phantom T base m' H' x := by
  have ho := hs.keep.obj x.H.next h.lt h.out
  obtain ⟨k1, k2⟩ := hs.keep.cls x.H.next h.lt h.lone
  refine ⟨h.low, Nat.lt_of_lt_of_le h.lt hs.next, ?_, ?_, ?_, k2⟩
  · cases e : m' x.H.next with
    | none => rfl
    | some p =>
      obtain ⟨b, N⟩ := p
      rcases hs.fresh _ b N e with e0 | ⟨h1, _⟩
      · rw [h.out] at e0; cases e0
      · have := h.lt; omega
  · obtain ⟨K, h1, h2⟩ := h.made
    exact ⟨K, h1, by rw [ho]; exact h2⟩
  · intro cs c s hc
    rw [ho] at hc
    obtain ⟨h1, h2⟩ := h.cls cs c s hc
    subst h1
    exact ⟨rfl, by rw [k1]; exact h2⟩

theorem Phantom.real {base : Nat} {m : Mp} {H : Heap} {x : Ent} (h : Phantom T base m H x) {o : Nat} {p : Nat × Nat} (hne : x.H.next ≠ o) (hsh : ∀ cs c s, H.obj o = .cells cs (some (c, s)) → c = o) : Phantom T base (m.add o p) H x := by
  refine ⟨h.low, h.lt, by rw [Mp.add_other m _ hne]; exact h.out, h.made, h.cls, fun j q cs s hj hh => ?_⟩
  by_cases e : j = o
  · subst e; exact hne (hsh cs _ s hh)
  · rw [Mp.add_other m _ e] at hj; exact h.lone j q cs s hj hh

theorem Phantom.mk' {base : Nat} {m : Mp} {H' : Heap} {w : World} {x : Ent} (hr : Rel m x.H w) (hw : HW x.H) (hb : base ≤ x.H.next) (ho : opB x.o.op T x.ρ x.H = .val x.v H') (hn : New x.H x.v H') : Phantom T base m H' x := by
  obtain ⟨h1, h2, h3, h4, h5⟩ := hn.spec hw
  refine ⟨hb, by omega, hr.fresh, ⟨H', ho, rfl⟩, h5, fun j q cs s hj hh => ?_⟩
  have hlt := hr.dom j q hj
  rw [h3 j hlt] at hh
  have := hw.clslt j cs _ s hh
  omega

theorem opC_any (op : Op) : opC op = 0 ∨ opC op = 1 ∨ opC op = 2 := by
  cases op with
  | call c =>
    obtain ⟨callee, as, ats⟩ := c
    cases callee with
    | builtin b =>
      show BK.casesOn (motive := fun _ => Nat) (bk b) 0 0 2 2 2 2 0 0 2 = 0 ∨ BK.casesOn (motive := fun _ => Nat) (bk b) 0 0 2 2 2 2 0 0 2 = 1 ∨ BK.casesOn (motive := fun _ => Nat) (bk b) 0 0 2 2 2 2 0 0 2 = 2
      cases bk b <;> first | exact .inl rfl | exact .inr (.inr rfl)
    | _ => exact .inr (.inr rfl)
  | _ => first | exact .inl rfl | exact .inr (.inl rfl) | exact .inr (.inr rfl)

theorem effA_iff {o : Oper} : effA o = true ↔ opC o.op = 2 := ⟨Nat.eq_of_beq_eq_true, beq_t⟩

/-- Memory where a rest begins. -/
def headH (HF : Heap) : List Ent → Heap
  | [] => HF
  | e :: _ => e.H
theorem headH_ok {tr : List Ent} {done ef : Nat} {H : Heap} (h : Ok T call l anc wr ρ0 ρF HF tr done ef H) : headH HF tr = H := by
  cases tr with
  | nil => exact h.1.symm
  | cons e t => exact h.1

/-- What an operation that may not do more does. -/
theorem dyn_calm {e : Ent} {H H' : Heap} (h : Dyn T call l ρF e H H') (he : effA e.o = false) :
    (H' = H ∧ ¬ (e.w = true ∧ opC e.o.op = 1)) ∨ (e.w = true ∧ opC e.o.op = 1 ∧ opB e.o.op T e.ρ H = .val e.v H' ∧ New H e.v H') := by
  rcases h.does with ⟨h1, h2, _⟩ | ⟨h1, h2⟩
  · exact .inl ⟨h2, fun q => by rw [h1] at q; cases q.1⟩
  · rcases opC_any e.o.op with hc | hc | hc
    · refine .inl ⟨?_, fun q => by rw [hc] at q; cases q.2⟩
      rcases opB_gives (T := T) hc e.ρ H with g | ⟨v, g⟩
      · rw [g] at h2; rcases h2 with h2 | ⟨h2, _⟩ | ⟨_, _, _, h2, _⟩ <;> cases h2
      · rw [g] at h2
        rcases h2 with h2 | ⟨h2, _⟩ | ⟨_, _, _, h2, _⟩
        · cases h2; rfl
        · cases h2
        · cases h2
    · refine .inr ⟨h1, hc, ?_⟩
      rcases opB_news (T := T) hc e.ρ H with g | ⟨v, K, g, hn⟩
      · rw [g] at h2; rcases h2 with h2 | ⟨h2, _⟩ | ⟨_, _, _, h2, _⟩ <;> cases h2
      · rw [g] at h2 ⊢
        rcases h2 with h2 | ⟨h2, _⟩ | ⟨_, _, _, h2, _⟩
        · cases h2; exact ⟨rfl, hn⟩
        · cases h2
        · cases h2
    · rw [effA_iff.2 hc] at he; cases he

/-- Up to the next operation that may do more, all is told. -/
theorem ghosts {m : Mp} {w : World} {base : Nat} : ∀ (g post : List Ent) (done ef : Nat) (H : Heap), Ok T call l anc wr ρ0 ρF HF (g ++ post) done ef H → (∀ y ∈ g, effA y.o = false) → Rel m H w → HW H → base ≤ H.next →
    Step m H w m (headH HF post) w ∧ (∀ y ∈ g, y.w = true → opC y.o.op = 1 → Phantom T base m (headH HF post) y ∧ H.next ≤ y.H.next) ∧
      (∀ y ∈ g, ∀ z ∈ g, y.w = true → opC y.o.op = 1 → z.w = true → opC z.o.op = 1 → y.i ≠ z.i → y.H.next ≠ z.H.next)
  | [], post, done, ef, H, hok, _, hr, hw, _ => by
    rw [headH_ok (by simpa using hok)]
    exact ⟨.refl hr hw, fun _ h => by (cases h), fun _ h => by (cases h)⟩
  | y :: g, post, done, ef, H, hok, he, hr, hw, hb => by
    obtain ⟨h1, h2, h3, ⟨H', hd, hok'⟩, h5⟩ := (hok : Ok T call l anc wr ρ0 ρF HF (y :: (g ++ post)) done ef H)
    have hst : Step m H w m H' w ∧ (y.w = true → opC y.o.op = 1 → Phantom T base m H' y ∧ H.next < H'.next) := by
      rcases dyn_calm hd (he y List.mem_cons_self) with ⟨rfl, hno⟩ | ⟨g1, g2, g3, g4⟩
      · exact ⟨.refl hr hw, fun a b => absurd ⟨a, b⟩ hno⟩
      · subst h1
        exact ⟨Step.ghost hr hw g4, fun _ _ => ⟨Phantom.mk' hr hw hb g3 g4, by have := (g4.spec hw).2.1; omega⟩⟩
    obtain ⟨hst, hph⟩ := hst
    obtain ⟨k1, k2, k3⟩ := ghosts g post _ _ H' hok' (fun z hz => he z (List.mem_cons_of_mem _ hz)) hst.rel hst.wf (Nat.le_trans hb hst.next)
    refine ⟨hst.trans k1, ?_, ?_⟩
    · intro z hz hzw hzc
      rcases List.mem_cons.1 hz with rfl | hz
      · exact ⟨(hph hzw hzc).1.step k1, by rw [h1]; exact Nat.le_refl _⟩
      · obtain ⟨q1, q2⟩ := k2 z hz hzw hzc
        exact ⟨q1, Nat.le_trans hst.next q2⟩
    · intro a ha b hb2 haw hac hbw hbc hne
      rcases List.mem_cons.1 ha with rfl | ha'
      · rcases List.mem_cons.1 hb2 with rfl | hb'
        · exact absurd rfl hne
        · have q1 := (hph haw hac).2
          have q2 := (k2 b hb' hbw hbc).2
          rw [← h1] at q1; omega
      · rcases List.mem_cons.1 hb2 with rfl | hb'
        · have q1 := (hph hbw hbc).2
          have q2 := (k2 a ha' haw hac).2
          rw [← h1] at q1; omega
        · exact k3 a ha' b hb' haw hac hbw hbc hne
end
end Go.Ai
