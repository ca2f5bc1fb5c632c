/- New objects; slices that grow; cells stored and loaded. -/
import Derived.Test.YtmbohkdfdolkkaaGreatDoorAiR
import Derived.Laws.Append
namespace Go.Ai
open Go

def Mp.add (m : Mp) (n : Nat) (p : Nat × Nat) : Mp := fun o => if o = n then some p else m o
theorem Mp.add_same (m : Mp) (n : Nat) (p : Nat × Nat) : m.add n p n = some p := by simp [Mp.add]
theorem Mp.add_other (m : Mp) {n : Nat} (p : Nat × Nat) {o : Nat} (h : o ≠ n) : m.add n p o = m o := by simp [Mp.add, h]
theorem Mp.le_add {m : Mp} {n : Nat} (p : Nat × Nat) (h : m n = none) : m.le (m.add n p) := by
  intro o q e
  by_cases ho : o = n
  · subst ho; rw [h] at e; cases e
  · rw [Mp.add_other m p ho]; exact e
theorem Rel.fresh {m : Mp} {H : Heap} {w : World} (h : Rel m H w) : m H.next = none := by
  cases e : m H.next with
  | none => rfl
  | some p => exact absurd (h.dom _ _ e) (Nat.lt_irrefl _)

/-- A world with one block more. -/
structure Pushed (w w' : World) (B : Obj) : Prop where
  heap : w'.heap = w.heap.push B
  os : w'.os = w.os
  tape : w'.tape = w.tape
  output : w'.output = w.output
theorem Pushed.here {w w' : World} {B : Obj} (h : Pushed w w' B) : w'.heap[w.heap.size]? = some B := by rw [h.heap]; simp
theorem Pushed.old {w w' : World} {B : Obj} (h : Pushed w w' B) {k : Nat} (hk : k < w.heap.size) : w'.heap[k]? = w.heap[k]? := by
  rw [h.heap, Array.getElem?_push, if_neg (by omega)]
theorem Pushed.size {w w' : World} {B : Obj} (h : Pushed w w' B) : w'.heap.size = w.heap.size + 1 := by rw [h.heap]; simp
theorem Pushed.cell {w w' : World} {B : Obj} (h : Pushed w w' B) {k : Nat} (hk : k < w.heap.size) (i : Nat) : w'.cell? ⟨k, i, none⟩ = w.cell? ⟨k, i, none⟩ := by
  simp [World.cell?, h.old hk]

/-- What a new block is to a new object. -/
def Fits1 (m : Mp) (N : Nat) (B : Obj) : AObj → Prop
  | .none => False
  | .cells cs _ => ∃ c e fz, B = .cells c e fz ∧ c.size = N ∧ (∀ i, i < N → ¬(fz.1 ≤ i ∧ i < fz.2)) ∧ cs.length ≤ N ∧ ∀ (i : Nat) (a : AV), cs[i]? = some a → ∃ v, c[i]? = some v ∧ VR m a v
  | .map es => ∃ l clk, B = .map l clk ∧ ERs m es l.toList ∧ MapKept.Stamped l clk

/-- A new object in a new block. -/
theorem Step.push {m : Mp} {H H' : Heap} {w w' : World} (hr : Rel m H w) (hw' : HW H') {X : AObj} {N : Nat} {B : Obj}
    (hobj : ∀ j, H'.obj j = if j = H.next then X else H.obj j) (hnext : H'.next = H.next + 1)
    (hsure : ∀ j cs sh, j ≠ H.next → H'.cells? j = .some cs sh → H.cells? j = .some cs sh)
    (hext : ∀ j cs c s, H'.cells? j = .some cs (some (c, s)) → (j ≠ H.next → cs.length ≤ (H.clsOf c).2) → cs.length ≤ (H'.clsOf c).2)
    (hkeep : ∀ c, c < H.next → Lone m H c → H'.clsOf c = H.clsOf c ∧ ∀ cs s, X ≠ .cells cs (some (c, s)))
    (hrok : ∀ j cs sh, j ≠ H.next → H.cells? j = .some cs sh → roSh sh = true → H'.cells? j = .some cs sh)
    (hX : Fits1 m N B X) (hp : Pushed w w' B) : Step m H w (m.add H.next (w.heap.size, N)) H' w' := by
  have hle : m.le (m.add H.next (w.heap.size, N)) := Mp.le_add _ hr.fresh
  have old : ∀ j p, j ≠ H.next → m.add H.next (w.heap.size, N) j = some p → m j = some p := by
    intro j p hj e; rw [Mp.add_other m _ hj] at e; exact e
  refine ⟨⟨?_, ?_, ?_, ?_, ?_, ?_, ?_, ?_⟩, hw', hle, ?_, ?_, by rw [hp.size]; omega, by omega, hp.os, hp.tape, hp.output, ⟨fun j hj _ => by rw [hobj, if_neg (by omega)], fun c hc hl => ⟨(hkeep c hc hl).1, fun j p cs s hj => by
    rw [hobj]
    by_cases e : j = H.next
    · rw [if_pos e]; exact (hkeep c hc hl).2 cs s
    · rw [if_neg e]; exact hl j p cs s (old j p e hj)⟩⟩, fun j b M cs sh hj hc hs => ⟨hrok j cs sh (fun e => by rw [e, hr.fresh] at hj; cases hj) hc hs, hp.old (hr.blk j b M hj)⟩⟩
  · intro j p hj
    by_cases e : j = H.next
    · omega
    · have := hr.dom j p (old j p e hj); omega
  · intro j b M hj
    rw [hp.size]
    by_cases e : j = H.next
    · subst e; rw [Mp.add_same] at hj; cases hj; omega
    · have := hr.blk j b M (old j _ e hj); omega
  · intro j b M cs sh hj ho
    by_cases e : j = H.next
    · subst e; rw [Mp.add_same] at hj; cases hj
      rw [hobj, if_pos rfl] at ho; subst ho
      obtain ⟨c, e, fz, rfl, hN, hf, _, _⟩ := hX
      exact ⟨c, e, fz, hp.here, hN, fun _ => hf⟩
    · have hj0 := old j _ e hj
      rw [hobj, if_neg e] at ho
      obtain ⟨c, e2, fz, h1, h2, h3⟩ := hr.cells j b M cs sh hj0 ho
      exact ⟨c, e2, fz, by rw [hp.old (hr.blk j b M hj0)]; exact h1, h2, h3⟩
  · intro j b M cs sh hj ho
    by_cases e : j = H.next
    · subst e; rw [Mp.add_same] at hj; cases hj
      have ho1 := (cells?_some.1 ho).1
      rw [hobj, if_pos rfl] at ho1; subst ho1
      obtain ⟨c, e, fz, rfl, hN, hf, hl, hv⟩ := hX
      refine ⟨hl, fun i a hi => ?_⟩
      obtain ⟨v, h1, h2⟩ := hv i a hi
      exact ⟨v, by rw [cell?_of hp.here]; exact h1, h2.mono hle⟩
    · have hj0 := old j _ e hj
      obtain ⟨h1, h2⟩ := hr.sure j b M cs sh hj0 (hsure j cs sh e ho)
      refine ⟨h1, fun i a hi => ?_⟩
      obtain ⟨v, g1, g2⟩ := h2 i a hi
      exact ⟨v, by rw [hp.cell (hr.blk j b M hj0)]; exact g1, g2.mono hle⟩
  · intro j p cs c s hj ho
    refine hext j cs c s ho fun e => ?_
    exact hr.ext j p cs c s (old j _ e hj) (hsure j cs _ e ho)
  · intro j j' b M M' cs sh cs' sh' hj hj' hne ho ho'
    by_cases e : j = H.next
    · subst e; rw [Mp.add_same] at hj; cases hj
      have := hr.blk j' _ M' (old j' _ (Ne.symm hne) hj')
      omega
    · by_cases e' : j' = H.next
      · subst e'; rw [Mp.add_same] at hj'; cases hj'
        have := hr.blk j _ M (old j _ e hj)
        omega
      · exact hr.sep j j' b M M' cs sh cs' sh' (old j _ e hj) (old j' _ e' hj') hne (hsure j cs sh e ho) (hsure j' cs' sh' e' ho')
  · intro j b M es hj ho
    by_cases e : j = H.next
    · subst e; rw [Mp.add_same] at hj; cases hj
      rw [hobj, if_pos rfl] at ho; subst ho
      obtain ⟨l, clk, rfl, h, hst⟩ := hX
      exact ⟨l, clk, hp.here, h.mono hle, hst⟩
    · have hj0 := old j _ e hj
      rw [hobj, if_neg e] at ho
      obtain ⟨l, clk, h1, h2, h3⟩ := hr.map j b M es hj0 ho
      exact ⟨l, clk, by rw [hp.old (hr.blk j b M hj0)]; exact h1, h2.mono hle, h3⟩
  · intro j j' b M M' es es' hj hj' ho ho'
    by_cases e : j = H.next
    · subst e; rw [Mp.add_same] at hj; cases hj
      by_cases e' : j' = H.next
      · exact e'.symm
      · have := hr.blk j' _ M' (old j' _ e' hj'); omega
    · by_cases e' : j' = H.next
      · subst e'; rw [Mp.add_same] at hj'; cases hj'
        have := hr.blk j _ M (old j _ e hj); omega
      · rw [hobj, if_neg e] at ho; rw [hobj, if_neg e'] at ho'
        exact hr.mapsep j j' b M M' es es' (old j _ e hj) (old j' _ e' hj') ho ho'
  · intro o b M h
    by_cases e : o = H.next
    · subst e; rw [Mp.add_same] at h; cases h; exact .inr ⟨Nat.le_refl _, .inl (Nat.le_refl _)⟩
    · exact .inl (old o _ e h)
  · intro b hb _
    exact hp.old hb

theorem obj_new (H : Heap) (x : AObj) (j : Nat) : (H.new x).obj j = if j = H.next then x else H.obj j := get_put _ _ _ _ _
theorem clsOf_new (H : Heap) (x : AObj) (c : Nat) : (H.new x).clsOf c = H.clsOf c := rfl
theorem obj_newRow (H : Heap) (cs : List AV) (j : Nat) : (H.newRow cs).obj j = if j = H.next then .cells cs (some (H.next, 0)) else H.obj j := get_put _ _ _ _ _
theorem clsOf_newRow (H : Heap) (cs : List AV) (c : Nat) : (H.newRow cs).clsOf c = if c = H.next then (0, llen cs) else H.clsOf c := get_put _ _ _ _ _

theorem HW.new {H : Heap} (h : HW H) {x : AObj} (hx : ∀ cs p, x ≠ .cells cs (some p)) : HW (H.new x) := by
  refine ⟨fun j hj => ?_, fun j cs c s hj => ?_, fun j cs c s hj => ?_⟩
  · rw [obj_new] at hj
    show j < H.next + 1
    by_cases e : j = H.next
    · omega
    · rw [if_neg e] at hj; have := h.objlt j hj; omega
  · rw [obj_new] at hj
    show c < H.next + 1
    by_cases e : j = H.next
    · rw [if_pos e] at hj; exact absurd hj (hx _ _)
    · rw [if_neg e] at hj; have := h.clslt j cs c s hj; omega
  · rw [obj_new] at hj
    rw [clsOf_new]
    by_cases e : j = H.next
    · rw [if_pos e] at hj; exact absurd hj (hx _ _)
    · rw [if_neg e] at hj; exact h.clsst j cs c s hj

theorem HW.newRow {H : Heap} (h : HW H) (cs : List AV) : HW (H.newRow cs) := by
  refine ⟨fun j hj => ?_, fun j ds c s hj => ?_, fun j ds c s hj => ?_⟩
  · rw [obj_newRow] at hj
    show j < H.next + 1
    by_cases e : j = H.next
    · omega
    · rw [if_neg e] at hj; have := h.objlt j hj; omega
  · rw [obj_newRow] at hj
    show c < H.next + 1
    by_cases e : j = H.next
    · rw [if_pos e] at hj; simp at hj; omega
    · rw [if_neg e] at hj; have := h.clslt j ds c s hj; omega
  · rw [obj_newRow] at hj
    rw [clsOf_newRow]
    by_cases e : j = H.next
    · rw [if_pos e] at hj; simp at hj; rw [← hj.2.2]; exact Nat.zero_le _
    · rw [if_neg e] at hj
      have := h.clslt j ds c s hj
      rw [if_neg (by omega)]; exact h.clsst j ds c s hj

/-- A new object that shares with nobody. -/
theorem Step.new {m : Mp} {H : Heap} {w w' : World} (hr : Rel m H w) (hw : HW H) {x : AObj} (hx : ∀ cs p, x ≠ .cells cs (some p)) {N : Nat} {B : Obj} (hX : Fits1 m N B x) (hp : Pushed w w' B) :
    Step m H w (m.add H.next (w.heap.size, N)) (H.new x) w' := by
  refine Step.push hr (hw.new hx) (obj_new H x) rfl ?_ ?_ (fun c _ _ => ⟨rfl, fun cs s => hx cs _⟩) (fun j cs sh hj h _ => by
    obtain ⟨h1, h2⟩ := cells?_some.1 h
    exact cells?_some.2 ⟨by rw [obj_new, if_neg hj]; exact h1, h2⟩) hX hp
  · intro j cs sh hj h
    obtain ⟨h1, h2⟩ := cells?_some.1 h
    rw [obj_new, if_neg hj] at h1
    exact cells?_some.2 ⟨h1, h2⟩
  · intro j cs c s h hh
    rw [clsOf_new]
    refine hh fun e => ?_
    have h1 := (cells?_some.1 h).1
    rw [obj_new, if_pos e] at h1
    exact hx _ _ h1

/-- A new row. -/
theorem Step.newRow {m : Mp} {H : Heap} {w w' : World} (hr : Rel m H w) (hw : HW H) {cs : List AV} {N : Nat} {B : Obj} (hX : Fits1 m N B (.cells cs (some (H.next, 0)))) (hp : Pushed w w' B) :
    Step m H w (m.add H.next (w.heap.size, N)) (H.newRow cs) w' := by
  refine Step.push hr (hw.newRow cs) (obj_newRow H cs) rfl ?_ ?_ (fun c hc _ => ⟨by rw [clsOf_newRow, if_neg (by omega)], fun cs s e => by simp at e; omega⟩) (fun j ds sh hj h _ => by
    obtain ⟨h1, h2⟩ := cells?_some.1 h
    refine cells?_some.2 ⟨by rw [obj_newRow, if_neg hj]; exact h1, fun p hp => ?_⟩
    have hlt := hw.clslt j ds p.1 p.2 (by rw [h1, hp])
    rw [clsOf_newRow, if_neg (by omega)]; exact h2 p hp) hX hp
  · intro j ds sh hj h
    obtain ⟨h1, h2⟩ := cells?_some.1 h
    rw [obj_newRow, if_neg hj] at h1
    refine cells?_some.2 ⟨h1, fun p hp => ?_⟩
    have := h2 p hp
    subst hp
    have hlt := hw.clslt j ds p.1 p.2 h1
    rw [clsOf_newRow, if_neg (by omega)] at this
    exact this
  · intro j ds c s h hh
    have h1 := (cells?_some.1 h).1
    rw [obj_newRow] at h1
    by_cases e : j = H.next
    · rw [if_pos e] at h1; cases h1
      rw [clsOf_newRow, if_pos rfl, llen_eq]; exact Nat.le_refl _
    · rw [if_neg e] at h1
      have hlt := hw.clslt j ds c s h1
      rw [clsOf_newRow, if_neg (by omega)]; exact hh e

theorem obj_fork (H : Heap) (cs : List AV) (c s j : Nat) : (H.fork cs c s).obj j = if j = H.next then .cells cs (some (c, s)) else H.obj j := get_put _ _ _ _ _
theorem clsOf_fork (H : Heap) (cs : List AV) (c s j : Nat) : (H.fork cs c s).clsOf j = if j = c then (s, llen cs) else H.clsOf j := get_put _ _ _ _ _

theorem HW.fork {H : Heap} (h : HW H) {o : Nat} {ds : List AV} {c s s' : Nat} (ho : H.cells? o = .some ds (some (c, s))) (hs : s ≤ s') (cs : List AV) : HW (H.fork cs c s') := by
  obtain ⟨g1, g2⟩ := cells?_some.1 ho
  have g2 := g2 _ rfl
  refine ⟨fun j hj => ?_, fun j ds' c' s'' hj => ?_, fun j ds' c' s'' hj => ?_⟩
  · rw [obj_fork] at hj
    show j < H.next + 1
    by_cases e : j = H.next
    · omega
    · rw [if_neg e] at hj; have := h.objlt j hj; omega
  · rw [obj_fork] at hj
    show c' < H.next + 1
    by_cases e : j = H.next
    · rw [if_pos e] at hj; simp at hj; have := h.clslt o ds c s g1; omega
    · rw [if_neg e] at hj; have := h.clslt j ds' c' s'' hj; omega
  · rw [obj_fork] at hj
    rw [clsOf_fork]
    by_cases e : j = H.next
    · rw [if_pos e] at hj; simp at hj; rw [if_pos hj.2.1.symm]; simp; omega
    · rw [if_neg e] at hj
      have := h.clsst j ds' c' s'' hj
      by_cases hc : c' = c
      · subst hc; rw [if_pos rfl]; simp at g2 ⊢; omega
      · rw [if_neg hc]; exact this

/-- What is sure behind it: what was, and either of another class, or no longer than what is kept. -/
theorem cells?_fork {H : Heap} (hw : HW H) {o : Nat} {ds : List AV} {c s : Nat} (ho : H.cells? o = .some ds (some (c, s))) {cs : List AV} {L : Nat} {j : Nat} {es : List AV} {sh : Option (Nat × Nat)}
    (hj : j ≠ H.next) (h : (H.fork cs c (if (H.clsOf c).2 ≤ L then s else s + 1)).cells? j = .some es sh) :
    H.cells? j = .some es sh ∧ ∀ t, sh = some (c, t) → (H.clsOf c).2 ≤ L := by
  obtain ⟨g1, g2⟩ := cells?_some.1 ho
  have g2 := g2 _ rfl
  obtain ⟨h1, h2⟩ := cells?_some.1 h
  rw [obj_fork, if_neg hj] at h1
  have key : ∀ t, sh = some (c, t) → (H.clsOf c).2 ≤ L ∧ t = s := by
    intro t ht
    subst ht
    have := h2 _ rfl
    rw [clsOf_fork, if_pos rfl] at this
    have hst := hw.clsst j es c t h1
    simp at this g2
    by_cases hL : (H.clsOf c).2 ≤ L
    · exact ⟨hL, by rw [if_pos hL] at this; omega⟩
    · rw [if_neg hL] at this; omega
  refine ⟨cells?_some.2 ⟨h1, fun p hp => ?_⟩, fun t ht => (key t ht).1⟩
  have := h2 p hp
  rw [clsOf_fork] at this
  by_cases hc : p.1 = c
  · have hk := key p.2 (by rw [hp, ← hc])
    rw [hc, hk.2]; exact g2
  · rw [if_neg hc] at this; exact this

theorem Step.forkNew {m : Mp} {H : Heap} {w w' : World} (hr : Rel m H w) (hw : HW H) {o : Nat} {ds : List AV} {c s : Nat} {q : Nat × Nat} (hm : m o = some q) (ho : H.cells? o = .some ds (some (c, s))) (hro : roSh (some (c, s)) = false) {cs : List AV} {L : Nat} (hL : L ≤ cs.length)
    {N : Nat} {B : Obj} (hX : ∀ p, Fits1 m N B (.cells cs p)) (hp : Pushed w w' B) :
    Step m H w (m.add H.next (w.heap.size, N)) (H.fork cs c (if (H.clsOf c).2 ≤ L then s else s + 1)) w' := by
  refine Step.push hr (hw.fork ho (by split <;> omega) cs) (obj_fork H cs c _) rfl ?_ ?_ (fun k _ hl => by
    have hk : k ≠ c := fun e => hl o _ ds s hm (by rw [e]; exact (cells?_some.1 ho).1)
    exact ⟨by rw [clsOf_fork, if_neg hk], fun cs s e => by simp at e; exact hk e.2.1.symm⟩) (fun j es sh hj h hs => by
      have hcl := ro_class ho hro h hs
      obtain ⟨h1, h2⟩ := cells?_some.1 h
      refine cells?_some.2 ⟨by rw [obj_fork, if_neg hj]; exact h1, fun p hp => ?_⟩
      rw [clsOf_fork, if_neg (hcl (c, s) p rfl hp)]; exact h2 p hp) (hX _) hp
  · intro j es sh hj h; exact (cells?_fork hw ho hj h).1
  · intro j es c' s' h hh
    rw [clsOf_fork]
    by_cases e : j = H.next
    · have h1 := (cells?_some.1 h).1
      rw [obj_fork, if_pos e] at h1; cases h1
      rw [if_pos rfl, llen_eq]; exact Nat.le_refl _
    · by_cases hc : c' = c
      · subst hc
        have := (cells?_fork hw ho e h).2 s' rfl
        have := hh e
        rw [if_pos rfl, llen_eq]; simp; omega
      · rw [if_neg hc]; exact hh e

theorem Step.forkHere {m : Mp} {H : Heap} {w w' : World} (hr : Rel m H w) (hw : HW H) {o b N : Nat} {ds : List AV} {c s : Nat} (hm : m o = some (b, N)) (ho : H.cells? o = .some ds (some (c, s))) (hro : roSh (some (c, s)) = false) {cs : List AV} {L : Nat} (hL : L ≤ cs.length)
    {k k' : Array Value} {e : TypeId} {fz : Nat × Nat} (hb : w.heap[b]? = some (.cells k e fz)) (hk : k'.size = k.size) (hcs : cs.length ≤ N)
    (hold : ∀ i, i < L → k'[i]? = k[i]?) (hv : ∀ (i : Nat) (a : AV), cs[i]? = some a → ∃ v, k'[i]? = some v ∧ VR m a v) (hon : Only w w' b k' e fz) :
    Step m H w (m.add H.next (b, N)) (H.fork cs c (if (H.clsOf c).2 ≤ L then s else s + 1)) w' := by
  have hle : m.le (m.add H.next (b, N)) := Mp.le_add _ hr.fresh
  have old : ∀ j p, j ≠ H.next → m.add H.next (b, N) j = some p → m j = some p := by
    intro j p hj e; rw [Mp.add_other m _ hj] at e; exact e
  obtain ⟨g1, g2⟩ := cells?_some.1 ho
  obtain ⟨k0, e0, fz0, hb0, hN, hfz⟩ := hr.cells o b N ds _ hm g1
  rw [hb] at hb0; cases hb0
  have hoN : o < H.next := hr.dom o _ hm
  refine ⟨⟨?_, ?_, ?_, ?_, ?_, ?_, ?_, ?_⟩, hw.fork ho (by split <;> omega) cs, hle, ?_, ?_, by rw [hon.size]; exact Nat.le_refl _, Nat.le_succ _, hon.os, hon.tape, hon.output, ⟨fun j hj _ => by rw [obj_fork, if_neg (by omega)], fun k hk hl => by
    have hkc : k ≠ c := fun e => hl o _ ds s hm (by rw [e]; exact g1)
    refine ⟨by rw [clsOf_fork, if_neg hkc], fun j p es s' hj => ?_⟩
    rw [obj_fork]
    by_cases e : j = H.next
    · rw [if_pos e]; intro hh; simp at hh; exact hkc hh.2.1.symm
    · rw [if_neg e]; exact hl j p es s' (old j p e hj)⟩, fun j b' M es sh hj hc hs => by
      have hcl := ro_class ho hro hc hs
      refine ⟨?_, hon.other b' (ro_block hr hm hj ho hro hc hs)⟩
      obtain ⟨h1, h2⟩ := cells?_some.1 hc
      have hjn := hr.dom j _ hj
      refine cells?_some.2 ⟨by rw [obj_fork, if_neg (by omega)]; exact h1, fun p hp => ?_⟩
      rw [clsOf_fork, if_neg (hcl (c, s) p rfl hp)]; exact h2 p hp⟩
  · intro j p hj
    show j < H.next + 1
    by_cases e : j = H.next
    · omega
    · have := hr.dom j p (old j p e hj); omega
  · intro j b' M hj
    rw [hon.size]
    by_cases e : j = H.next
    · subst e; rw [Mp.add_same] at hj; cases hj; exact hr.blk o b N hm
    · exact hr.blk j b' M (old j _ e hj)
  · intro j b' M es sh hj hobj
    by_cases e : j = H.next
    · subst e; rw [Mp.add_same] at hj; cases hj
      exact ⟨k', _, _, hon.here, by omega, fun _ => hfz hro⟩
    · have hj0 := old j _ e hj
      rw [obj_fork, if_neg e] at hobj
      obtain ⟨c1, e1, fz1, h1, h2, h3⟩ := hr.cells j b' M es sh hj0 hobj
      by_cases hbb : b' = b
      · subst hbb; rw [hb] at h1; cases h1; exact ⟨k', _, _, hon.here, by omega, h3⟩
      · exact ⟨c1, e1, fz1, by rw [hon.other b' hbb]; exact h1, h2, h3⟩
  · intro j b' M es sh hj hc
    by_cases e : j = H.next
    · subst e; rw [Mp.add_same] at hj; cases hj
      have h1 := (cells?_some.1 hc).1
      rw [obj_fork, if_pos rfl] at h1; cases h1
      refine ⟨hcs, fun i a hi => ?_⟩
      obtain ⟨v, h1, h2⟩ := hv i a hi
      exact ⟨v, by rw [cell?_of hon.here]; exact h1, h2.mono hle⟩
    · have hj0 := old j _ e hj
      obtain ⟨hc0, hcl⟩ := cells?_fork hw ho e hc
      obtain ⟨h1, h2⟩ := hr.sure j b' M es sh hj0 hc0
      refine ⟨h1, fun i a hi => ?_⟩
      obtain ⟨v, h3, h4⟩ := h2 i a hi
      refine ⟨v, ?_, h4.mono hle⟩
      by_cases hbb : b' = b
      · subst hbb
        have hlt : i < es.length := (List.getElem?_eq_some_iff.1 hi).1
        have hiL : i < L := by
          by_cases hjo : j = o
          · subst hjo
            rw [ho] at hc0; cases hc0
            have := hcl s rfl
            have := hr.ext j (b', N) ds c s hm ho
            omega
          · obtain ⟨c2, s2, q1, q2⟩ := hr.sep o j b' N M ds (some (c, s)) es sh hm hj0 (Ne.symm hjo) ho hc0
            cases q1
            have := hcl s q2
            subst q2
            have := hr.ext j (b', M) es c s hj0 hc0
            omega
        rw [cell?_of hon.here, hold i hiL, ← cell?_of hb]; exact h3
      · rw [hon.cell hbb]; exact h3
  · intro j p es c' s' hj hc
    rw [clsOf_fork]
    by_cases e : j = H.next
    · have h1 := (cells?_some.1 hc).1
      rw [obj_fork, if_pos e] at h1; cases h1
      rw [if_pos rfl, llen_eq]; exact Nat.le_refl _
    · obtain ⟨hc0, hcl⟩ := cells?_fork hw ho e hc
      have := hr.ext j p es c' s' (old j _ e hj) hc0
      by_cases hcc : c' = c
      · subst hcc
        have := hcl s' rfl
        rw [if_pos rfl, llen_eq]; simp; omega
      · rw [if_neg hcc]; exact this
  · intro j j' b' M M' es sh es' sh' hj hj' hne hc hc'
    by_cases e : j = H.next
    · subst e; rw [Mp.add_same] at hj; cases hj
      have h1 := (cells?_some.1 hc).1
      rw [obj_fork, if_pos rfl] at h1; cases h1
      have e' : j' ≠ H.next := Ne.symm hne
      obtain ⟨hc0', hcl'⟩ := cells?_fork hw ho e' hc'
      have hj0' := old j' _ e' hj'
      have hsh : ∃ t, sh' = some (c, t) := by
        by_cases hjo : j' = o
        · subst hjo; rw [ho] at hc0'; cases hc0'; exact ⟨s, rfl⟩
        · obtain ⟨c2, s2, q1, q2⟩ := hr.sep o j' b N M' ds (some (c, s)) es' sh' hm hj0' (Ne.symm hjo) ho hc0'
          cases q1; exact ⟨s, q2⟩
      obtain ⟨t, rfl⟩ := hsh
      have h2 := (cells?_some.1 hc').2 _ rfl
      rw [clsOf_fork, if_pos rfl] at h2
      exact ⟨c, _, rfl, by simp at h2; rw [h2]⟩
    · by_cases e' : j' = H.next
      · subst e'; rw [Mp.add_same] at hj'; cases hj'
        have h1 := (cells?_some.1 hc').1
        rw [obj_fork, if_pos rfl] at h1; cases h1
        obtain ⟨hc0, hcl⟩ := cells?_fork hw ho e hc
        have hj0 := old j _ e hj
        have hsh : ∃ t, sh = some (c, t) := by
          by_cases hjo : j = o
          · subst hjo; rw [ho] at hc0; cases hc0; exact ⟨s, rfl⟩
          · obtain ⟨c2, s2, q1, q2⟩ := hr.sep o j b N M ds (some (c, s)) es sh hm hj0 (Ne.symm hjo) ho hc0
            cases q1; exact ⟨s, q2⟩
        obtain ⟨t, rfl⟩ := hsh
        have h2 := (cells?_some.1 hc).2 _ rfl
        rw [clsOf_fork, if_pos rfl] at h2
        exact ⟨c, _, by simp at h2; rw [h2], rfl⟩
      · exact hr.sep j j' b' M M' es sh es' sh' (old j _ e hj) (old j' _ e' hj') hne (cells?_fork hw ho e hc).1 (cells?_fork hw ho e' hc').1
  · intro j b' M es hj hobj
    rw [obj_fork] at hobj
    by_cases e : j = H.next
    · rw [if_pos e] at hobj; cases hobj
    · rw [if_neg e] at hobj
      obtain ⟨l, clk, h1, h2, h3⟩ := hr.map j b' M es (old j _ e hj) hobj
      have hbb : b' ≠ b := by rintro rfl; rw [hb] at h1; cases h1
      exact ⟨l, clk, by rw [hon.other b' hbb]; exact h1, h2.mono hle, h3⟩
  · intro j j' b' M M' es es' hj hj' hobj hobj'
    rw [obj_fork] at hobj hobj'
    by_cases e : j = H.next
    · rw [if_pos e] at hobj; cases hobj
    · by_cases e' : j' = H.next
      · rw [if_pos e'] at hobj'; cases hobj'
      · rw [if_neg e] at hobj; rw [if_neg e'] at hobj'
        exact hr.mapsep j j' b' M M' es es' (old j _ e hj) (old j' _ e' hj') hobj hobj'
  · intro j b' M h
    by_cases e : j = H.next
    · subst e; rw [Mp.add_same] at h; cases h; exact .inr ⟨Nat.le_refl _, .inr ⟨o, hm⟩⟩
    · exact .inl (old j _ e h)
  · intro b' _ hb'
    exact hon.other b' (fun e => hb' o N (by rw [e]; exact hm))

end Go.Ai
