/- How the abstract machine's values and memory stand to a world's. -/
import Derived.Test.YtmbohkdfdolkkaaGreatDoorAiT
import Derived.Laws.World
import Derived.Laws.Cells
import Derived.Laws.Tables
import Derived.MapKept
namespace Go.Ai
open Go

/-- Of an object its block, and how many cells that has. -/
abbrev Mp := Nat → Option (Nat × Nat)
def Mp.le (m m' : Mp) : Prop := ∀ o p, m o = some p → m' o = some p
theorem Mp.le_refl (m : Mp) : m.le m := fun _ _ h => h
theorem Mp.le_trans {a b c : Mp} (h : a.le b) (k : b.le c) : a.le c := fun o p e => k o p (h o p e)

mutual
inductive VR (m : Mp) : AV → Value → Prop
  | bad (v : Value) : VR m .bad v
  | bool (b : Bool) : VR m (.bool b) (.bool b)
  | int (k : IntKind) (n : Int) : VR m (.int k n) (.int k n)
  | float (k : FloatKind) (b : Nat) : VR m (.float k b) (.float k b)
  | str (s : ByteArray) : VR m (.str s.data.toList) (.string s)
  | ptr0 : VR m .ptr0 (.pointer none)
  | ptr {o b N : Nat} (off : Nat) (h : m o = some (b, N)) : VR m (.ptr o off) (.pointer (some ⟨b, off, none⟩))
  | sl0 : VR m .sl0 (.slice none 0 0)
  | sl {o b N off off' len cap cap' : Nat} {ex : Bool} {es : Nat} (h : m o = some (b, N)) (hl : len ≤ cap') (hc : cap ≤ cap')
      (hN : off' + cap' * es ≤ N) (ho : off' = off ∨ cap' = 0) (hex : ex = true → cap' = cap) : VR m (.sl o off len cap ex es) (.slice (some ⟨b, off', none⟩) len cap')
  | map0 : VR m .map0 (.map none)
  | map {o b N : Nat} (h : m o = some (b, N)) : VR m (.map o) (.map (some b))
  | fn0 : VR m .fn0 .nilFunc
  | fn (f : FuncId) {a b : List AV} {a' b' : Array Value} (ha : VRs m a a'.toList) (hb : VRs m b b'.toList) : VR m (.fn f a b) (.func (.func f) a' b')
  | agg {cs : List AV} {c : Array Value} (h : VRs m cs c.toList) : VR m (.agg cs) (.agg c)
  | tup {cs : List AV} {c : Array Value} (h : VRs m cs c.toList) : VR m (.tup cs) (.tuple c)
inductive VRs (m : Mp) : List AV → List Value → Prop
  | nil : VRs m [] []
  | cons {a : AV} {v : Value} {as : List AV} {vs : List Value} (h : VR m a v) (t : VRs m as vs) : VRs m (a :: as) (v :: vs)
end

mutual
theorem VR.mono {m m' : Mp} (hm : m.le m') {a : AV} {v : Value} (h : VR m a v) : VR m' a v := by
  cases h with
  | bad => exact .bad _
  | bool => exact .bool _
  | int => exact .int _ _
  | float => exact .float _ _
  | str => exact .str _
  | ptr0 => exact .ptr0
  | ptr off h => exact .ptr off (hm _ _ h)
  | sl0 => exact .sl0
  | sl h hl hc hN ho hex => exact .sl (hm _ _ h) hl hc hN ho hex
  | map0 => exact .map0
  | map h => exact .map (hm _ _ h)
  | fn0 => exact .fn0
  | fn f ha hb => exact .fn f (VRs.mono hm ha) (VRs.mono hm hb)
  | agg h => exact .agg (VRs.mono hm h)
  | tup h => exact .tup (VRs.mono hm h)
theorem VRs.mono {m m' : Mp} (hm : m.le m') {as : List AV} {vs : List Value} (h : VRs m as vs) : VRs m' as vs := by
  cases h with
  | nil => exact .nil
  | cons h t => exact .cons (VR.mono hm h) (VRs.mono hm t)
end

theorem VRs.length {m : Mp} : ∀ {as : List AV} {vs : List Value}, VRs m as vs → as.length = vs.length
  | _, _, .nil => rfl
  | _, _, .cons _ t => by simp [VRs.length t]
theorem VRs.get {m : Mp} : ∀ {as : List AV} {vs : List Value}, VRs m as vs → ∀ {i : Nat} {a : AV}, as[i]? = some a → ∃ v, vs[i]? = some v ∧ VR m a v
  | _, _, .nil, i, a, h => by simp at h
  | _, _, .cons hv t, i, a, h => by
    cases i with
    | zero => simp at h; subst h; exact ⟨_, rfl, hv⟩
    | succ i => simp at h; simpa using VRs.get t h
theorem VRs.of_get {m : Mp} : ∀ {as : List AV} {vs : List Value}, as.length = vs.length → (∀ (i : Nat) (a : AV), as[i]? = some a → ∃ v, vs[i]? = some v ∧ VR m a v) → VRs m as vs
  | [], [], _, _ => .nil
  | a :: as, v :: vs, hl, h => by
    refine .cons ?_ (VRs.of_get (by simpa using hl) fun i b hb => ?_)
    · obtain ⟨v', h1, h2⟩ := h 0 a rfl; simp at h1; subst h1; exact h2
    · have := h (i + 1) b (by simpa using hb); simpa using this
  | [], _ :: _, hl, _ => by simp at hl
  | _ :: _, [], hl, _ => by simp at hl
theorem VRs.append {m : Mp} : ∀ {as bs : List AV} {vs us : List Value}, VRs m as vs → VRs m bs us → VRs m (as ++ bs) (vs ++ us)
  | _, _, _, _, .nil, h => h
  | _, _, _, _, .cons hv t, h => .cons hv (VRs.append t h)
theorem VRs.take {m : Mp} (n : Nat) : ∀ {as : List AV} {vs : List Value}, VRs m as vs → VRs m (as.take n) (vs.take n) := by
  induction n with
  | zero => intro as vs _; simp; exact .nil
  | succ n ih => intro as vs h; cases h with
    | nil => exact .nil
    | cons hv t => exact .cons hv (ih t)
theorem VRs.drop {m : Mp} (n : Nat) : ∀ {as : List AV} {vs : List Value}, VRs m as vs → VRs m (as.drop n) (vs.drop n) := by
  induction n with
  | zero => intro as vs h; exact h
  | succ n ih => intro as vs h; cases h with
    | nil => exact .nil
    | cons hv t => exact ih t
theorem VRs.single {m : Mp} {a : AV} {v : Value} (h : VR m a v) : VRs m [a] [v] := .cons h .nil
theorem VRs.replicate {m : Mp} {a : AV} {v : Value} (h : VR m a v) (n : Nat) : VRs m (List.replicate n a) (List.replicate n v) := by
  induction n with
  | zero => exact .nil
  | succ n ih => exact .cons h ih
theorem VRs.flatten {m : Mp} {as : List AV} {vs : List Value} (h : VRs m as vs) (n : Nat) : VRs m (List.replicate n as).flatten (List.replicate n vs).flatten := by
  induction n with
  | zero => exact .nil
  | succ n ih => simp only [List.replicate_succ, List.flatten_cons]; exact h.append ih

/-- A value that a cell may hold is one cell. -/
theorem VR.oneCell {m : Mp} {a : AV} {v : Value} (h : VR m a v) (hs : a.single = true) : v.oneCell' = true ∧ v.cells = #[v] ∧ a.cells = [a] := by
  cases h <;> first | exact ⟨rfl, rfl, rfl⟩ | (exact absurd hs (by simp [show ∀ cs, (AV.agg cs).single = false from fun _ => rfl, show ∀ cs, (AV.tup cs).single = false from fun _ => rfl, show AV.bad.single = false from rfl]))

theorem VR.cells {m : Mp} {a : AV} {v : Value} (h : VR m a v) (hs : lall AV.single a.cells = true) : VRs m a.cells v.cells.toList ∧ ∀ x ∈ v.cells.toList, x.oneCell' = true := by
  rw [lall_eq, List.all_eq_true] at hs
  have key : VRs m a.cells v.cells.toList := by
    cases h with
    | agg h => exact h
    | tup h =>
      rename_i cs c
      have := hs (.tup cs) (by show _ ∈ [AV.tup cs]; simp)
      simp [show ∀ cs, (AV.tup cs).single = false from fun _ => rfl] at this
    | bad =>
      have := hs .bad (by show _ ∈ [AV.bad]; simp)
      simp [show AV.bad.single = false from rfl] at this
    | bool => exact .single (.bool _)
    | int => exact .single (.int _ _)
    | float => exact .single (.float _ _)
    | str => exact .single (.str _)
    | ptr0 => exact .single .ptr0
    | ptr off h => exact .single (.ptr off h)
    | sl0 => exact .single .sl0
    | sl h hl hc hN ho hex => exact .single (.sl h hl hc hN ho hex)
    | map0 => exact .single .map0
    | map h => exact .single (.map h)
    | fn0 => exact .single .fn0
    | fn f ha hb => exact .single (.fn f ha hb)
  refine ⟨key, fun x hx => ?_⟩
  obtain ⟨i, hi⟩ := List.mem_iff_getElem?.1 hx
  have hlt : i < a.cells.length := by rw [key.length]; exact (List.getElem?_eq_some_iff.1 hi).1
  obtain ⟨y, hy⟩ : ∃ y, a.cells[i]? = some y := ⟨_, List.getElem?_eq_getElem hlt⟩
  obtain ⟨v', h1, h2⟩ := key.get hy
  rw [hi] at h1; cases h1
  exact (h2.oneCell (hs y (List.mem_of_getElem? hy))).1

/-- Entries of a map. -/
inductive ERs (m : Mp) : List (AV × AV) → List MapEntry → Prop
  | nil : ERs m [] []
  | cons {k v : AV} {e : MapEntry} {es : List (AV × AV)} {l : List MapEntry} (hk : VR m k e.key) (hv : VR m v e.val) (t : ERs m es l) : ERs m ((k, v) :: es) (e :: l)
theorem ERs.mono {m m' : Mp} (hm : m.le m') : ∀ {es : List (AV × AV)} {l : List MapEntry}, ERs m es l → ERs m' es l
  | _, _, .nil => .nil
  | _, _, .cons hk hv t => .cons (hk.mono hm) (hv.mono hm) (ERs.mono hm t)
theorem ERs.length {m : Mp} : ∀ {es : List (AV × AV)} {l : List MapEntry}, ERs m es l → es.length = l.length
  | _, _, .nil => rfl
  | _, _, .cons _ _ t => by simp [ERs.length t]

theorem obj_put (H : Heap) (o j : Nat) (x : AObj) : (H.put o x).obj j = if j = o then x else H.obj j := get_put _ _ _ _ _
theorem clsOf_put (H : Heap) (o c : Nat) (x : AObj) : (H.put o x).clsOf c = H.clsOf c := rfl
theorem obj_putCls (H : Heap) (c j : Nat) (x : Nat × Nat) : (H.putCls c x).obj j = H.obj j := rfl
theorem clsOf_putCls (H : Heap) (c j : Nat) (x : Nat × Nat) : (H.putCls c x).clsOf j = if j = c then x else H.clsOf j := get_put _ _ _ _ _

theorem cells?_some {H : Heap} {o : Nat} {cs : List AV} {sh : Option (Nat × Nat)} :
    H.cells? o = .some cs sh ↔ H.obj o = .cells cs sh ∧ ∀ p, sh = some p → (H.clsOf p.1).1 = p.2 := by
  unfold Heap.cells?
  cases h : H.obj o with
  | none => simp
  | map es => simp
  | cells cs' sh' =>
    cases sh' with
    | none => simp only [CR.some.injEq, AObj.cells.injEq]; constructor
              · rintro ⟨rfl, rfl⟩; exact ⟨⟨rfl, rfl⟩, fun p hp => by cases hp⟩
              · rintro ⟨⟨rfl, rfl⟩, _⟩; exact ⟨rfl, rfl⟩
    | some p =>
      by_cases hp : p.2 = (H.clsOf p.1).1
      · simp only [beq_t hp, cond_true, CR.some.injEq, AObj.cells.injEq]
        constructor
        · rintro ⟨rfl, rfl⟩; exact ⟨⟨rfl, rfl⟩, fun q hq => by cases hq; exact hp.symm⟩
        · rintro ⟨⟨rfl, rfl⟩, _⟩; exact ⟨rfl, rfl⟩
      · simp only [beq_f hp, cond_false, AObj.cells.injEq]
        constructor
        · intro h; cases h
        · rintro ⟨⟨rfl, rfl⟩, h2⟩; exact absurd (h2 p rfl).symm hp

theorem wr_cases {α : Type} {d x r : α} {sh : Option (Nat × Nat)} (h : wr d sh x = r) (hr : r ≠ d) : roSh sh = false ∧ x = r := by
  unfold wr at h
  cases hs : roSh sh with
  | true => rw [hs] at h; exact absurd h.symm hr
  | false => rw [hs] at h; exact ⟨rfl, h⟩

/-- Memory that hangs together. -/
structure HW (H : Heap) : Prop where
  objlt : ∀ o, H.obj o ≠ .none → o < H.next
  clslt : ∀ o cs c s, H.obj o = .cells cs (some (c, s)) → c < H.next
  clsst : ∀ o cs c s, H.obj o = .cells cs (some (c, s)) → s ≤ (H.clsOf c).1

structure Rel (m : Mp) (H : Heap) (w : World) : Prop where
  dom : ∀ o p, m o = some p → o < H.next
  blk : ∀ o b N, m o = some (b, N) → b < w.heap.size
  cells : ∀ o b N cs sh, m o = some (b, N) → H.obj o = .cells cs sh → ∃ c e fz, w.heap[b]? = some (.cells c e fz) ∧ c.size = N ∧ (roSh sh = false → ∀ i, i < N → ¬(fz.1 ≤ i ∧ i < fz.2))
  sure : ∀ o b N cs sh, m o = some (b, N) → H.cells? o = .some cs sh → cs.length ≤ N ∧ ∀ (i : Nat) (a : AV), cs[i]? = some a → ∃ v, w.cell? ⟨b, i, none⟩ = some v ∧ VR m a v
  ext : ∀ o p cs c s, m o = some p → H.cells? o = .some cs (some (c, s)) → cs.length ≤ (H.clsOf c).2
  sep : ∀ o o' b N N' cs sh cs' sh', m o = some (b, N) → m o' = some (b, N') → o ≠ o' → H.cells? o = .some cs sh → H.cells? o' = .some cs' sh' → ∃ c s, sh = some (c, s) ∧ sh' = some (c, s)
  map : ∀ o b N es, m o = some (b, N) → H.obj o = .map es → ∃ l clk, w.heap[b]? = some (.map l clk) ∧ ERs m es l.toList ∧ MapKept.Stamped l clk
  mapsep : ∀ o o' b N N' es es', m o = some (b, N) → m o' = some (b, N') → H.obj o = .map es → H.obj o' = .map es' → o = o'

/-- No object that is there shares memory in this class. -/
def Lone (m : Mp) (H : Heap) (c : Nat) : Prop := ∀ o p cs s, m o = some p → H.obj o ≠ .cells cs (some (c, s))

/-- What is not there stays as it is told. -/
structure Keeps (m : Mp) (H : Heap) (m' : Mp) (H' : Heap) : Prop where
  obj : ∀ o, o < H.next → m o = none → H'.obj o = H.obj o
  cls : ∀ c, c < H.next → Lone m H c → H'.clsOf c = H.clsOf c ∧ Lone m' H' c

/-- From one state to a later one. -/
structure Step (m : Mp) (H : Heap) (w : World) (m' : Mp) (H' : Heap) (w' : World) : Prop where
  rel : Rel m' H' w'
  wf : HW H'
  le : m.le m'
  fresh : ∀ o b N, m' o = some (b, N) → m o = some (b, N) ∨ (H.next ≤ o ∧ (w.heap.size ≤ b ∨ ∃ o', m o' = some (b, N)))
  frame : ∀ b, b < w.heap.size → (∀ o N, m o ≠ some (b, N)) → w'.heap[b]? = w.heap[b]?
  size : w.heap.size ≤ w'.heap.size
  next : H.next ≤ H'.next
  os : w'.os = w.os
  tape : w'.tape = w.tape
  output : w'.output = w.output
  keep : Keeps m H m' H'
  ro : ∀ o b N cs sh, m o = some (b, N) → H.cells? o = .some cs sh → roSh sh = true → H'.cells? o = .some cs sh ∧ w'.heap[b]? = w.heap[b]?

theorem Step.refl {m : Mp} {H : Heap} {w : World} (h : Rel m H w) (k : HW H) : Step m H w m H w :=
  ⟨h, k, m.le_refl, fun _ _ _ h => .inl h, fun _ _ _ => rfl, Nat.le_refl _, Nat.le_refl _, rfl, rfl, rfl, ⟨fun _ _ _ => rfl, fun _ _ h => ⟨rfl, h⟩⟩, fun _ _ _ _ _ _ h _ => ⟨h, rfl⟩⟩

theorem Step.trans {m m₁ m₂ : Mp} {H H₁ H₂ : Heap} {w w₁ w₂ : World} (h : Step m H w m₁ H₁ w₁) (k : Step m₁ H₁ w₁ m₂ H₂ w₂) : Step m H w m₂ H₂ w₂ where
  rel := k.rel
  wf := k.wf
  le := Mp.le_trans h.le k.le
  fresh := by
    intro o b N e
    rcases k.fresh o b N e with e₁ | ⟨h1, h2⟩
    · exact h.fresh o b N e₁
    · refine .inr ⟨Nat.le_trans h.next h1, ?_⟩
      rcases h2 with h2 | ⟨o', e'⟩
      · exact .inl (Nat.le_trans h.size h2)
      · rcases h.fresh o' b N e' with e₀ | ⟨_, h3⟩
        · exact .inr ⟨o', e₀⟩
        · exact h3
  frame := by
    intro b hb hm
    rw [k.frame b (Nat.lt_of_lt_of_le hb h.size), h.frame b hb hm]
    intro o N e
    rcases h.fresh o b N e with e₀ | ⟨_, h3 | ⟨o', e'⟩⟩
    · exact hm o N e₀
    · omega
    · exact hm o' N e'
  size := Nat.le_trans h.size k.size
  next := Nat.le_trans h.next k.next
  os := k.os.trans h.os
  tape := k.tape.trans h.tape
  output := k.output.trans h.output
  ro := fun o b N cs sh hm hc hs => by
    obtain ⟨h1, h2⟩ := h.ro o b N cs sh hm hc hs
    obtain ⟨h3, h4⟩ := k.ro o b N cs sh (h.le _ _ hm) h1 hs
    exact ⟨h3, h4.trans h2⟩
  keep := by
    refine ⟨fun o ho hm => ?_, fun c hc hl => ?_⟩
    · rw [k.keep.obj o (Nat.lt_of_lt_of_le ho h.next) ?_, h.keep.obj o ho hm]
      cases e : m₁ o with
      | none => rfl
      | some p =>
        obtain ⟨b, N⟩ := p
        rcases h.fresh o b N e with e₀ | ⟨h1, _⟩
        · rw [hm] at e₀; cases e₀
        · omega
    · obtain ⟨h1, h2⟩ := h.keep.cls c hc hl
      obtain ⟨h3, h4⟩ := k.keep.cls c (Nat.lt_of_lt_of_le hc h.next) h2
      exact ⟨h3.trans h1, h4⟩

/-- A draw turns nothing. -/
theorem Rel.drawn {m : Mp} {H : Heap} {w : World} (h : Rel m H w) (n : Nat) : Rel m H { w with drawn := n } :=
  ⟨h.dom, h.blk, h.cells, h.sure, h.ext, h.sep, h.map, h.mapsep⟩

theorem Step.drawn {m : Mp} {H : Heap} {w : World} (h : Rel m H w) (k : HW H) (n : Nat) : Step m H w m H { w with drawn := n } :=
  ⟨h.drawn n, k, m.le_refl, fun _ _ _ h => .inl h, fun _ _ _ => rfl, Nat.le_refl _, Nat.le_refl _, rfl, rfl, rfl, ⟨fun _ _ _ => rfl, fun _ _ h => ⟨rfl, h⟩⟩, fun _ _ _ _ _ _ h _ => ⟨h, rfl⟩⟩

theorem cell?_of {w : World} {b : Nat} {c : Array Value} {e : TypeId} {fz : Nat × Nat} (h : w.heap[b]? = some (.cells c e fz)) (i : Nat) : w.cell? ⟨b, i, none⟩ = c[i]? := by
  simp [World.cell?, h]
theorem frozen?_of {w : World} {b : Nat} {c : Array Value} {e : TypeId} {fz : Nat × Nat} (h : w.heap[b]? = some (.cells c e fz)) (i : Nat) : w.frozen? ⟨b, i, none⟩ = decide (fz.1 ≤ i ∧ i < fz.2) := by
  simp [World.frozen?, h]

/-- A world that differs in the cells of one block. -/
structure Only (w w' : World) (b : Nat) (c' : Array Value) (e : TypeId) (fz : Nat × Nat) : Prop where
  here : w'.heap[b]? = some (.cells c' e fz)
  other : ∀ k, k ≠ b → w'.heap[k]? = w.heap[k]?
  size : w'.heap.size = w.heap.size
  os : w'.os = w.os
  tape : w'.tape = w.tape
  output : w'.output = w.output

theorem Only.cell {w w' : World} {b : Nat} {c' : Array Value} {e : TypeId} {fz : Nat × Nat} (h : Only w w' b c' e fz) {k : Nat} (hk : k ≠ b) (i : Nat) : w'.cell? ⟨k, i, none⟩ = w.cell? ⟨k, i, none⟩ := by
  simp [World.cell?, h.other k hk]

theorem obj_write (H : Heap) (o : Nat) (sh : Option (Nat × Nat)) (cs : List AV) (j : Nat) :
    (H.write o sh cs).obj j = if j = o then .cells cs (sh.map fun p => (p.1, p.2 + 1)) else H.obj j := by
  cases sh with
  | none => exact obj_put _ _ _ _
  | some p => show ((H.put o _).putCls _ _).obj j = _; rw [obj_putCls, obj_put]; rfl
theorem clsOf_write (H : Heap) (o : Nat) (sh : Option (Nat × Nat)) (cs : List AV) (c : Nat) :
    (H.write o sh cs).clsOf c = match sh with | none => H.clsOf c | some p => if c = p.1 then (p.2 + 1, (H.clsOf p.1).2) else H.clsOf c := by
  cases sh with
  | none => rfl
  | some p => show ((H.put o _).putCls _ _).clsOf c = _; rw [clsOf_putCls]; rfl
theorem next_write (H : Heap) (o : Nat) (sh : Option (Nat × Nat)) (cs : List AV) : (H.write o sh cs).next = H.next := by cases sh <;> rfl

/-- What is sure behind a write. -/
theorem cells?_write {H : Heap} (hw : HW H) {o : Nat} {sh : Option (Nat × Nat)} {cs cs' : List AV} (h : H.cells? o = .some cs sh) {j : Nat} {ds : List AV} {sh' : Option (Nat × Nat)}
    (hj : (H.write o sh cs').cells? j = .some ds sh') :
    (j = o ∧ ds = cs' ∧ sh' = sh.map fun p => (p.1, p.2 + 1)) ∨
    (j ≠ o ∧ H.cells? j = .some ds sh' ∧ ∀ p q, sh = some p → sh' = some q → q.1 ≠ p.1) := by
  obtain ⟨h1, h2⟩ := cells?_some.1 hj
  obtain ⟨g1, g2⟩ := cells?_some.1 h
  rw [obj_write] at h1
  by_cases e : j = o
  · rw [if_pos e] at h1; cases h1; exact .inl ⟨e, rfl, rfl⟩
  · rw [if_neg e] at h1
    have hne : ∀ p q, sh = some p → sh' = some q → q.1 ≠ p.1 := by
      rintro p q rfl rfl hqp
      have hs := h2 q rfl
      rw [clsOf_write] at hs
      simp only [if_pos hqp] at hs
      have := hw.clsst j ds q.1 q.2 h1
      have := g2 p rfl
      rw [hqp] at *
      omega
    refine .inr ⟨e, cells?_some.2 ⟨h1, fun q hq => ?_⟩, hne⟩
    have hs := h2 q hq
    rw [clsOf_write] at hs
    cases sh with
    | none => exact hs
    | some p => simp only [if_neg (hne p q rfl hq)] at hs; exact hs

theorem HW.write {H : Heap} (hw : HW H) {o : Nat} {sh : Option (Nat × Nat)} {cs cs' : List AV} (h : H.cells? o = .some cs sh) : HW (H.write o sh cs') := by
  obtain ⟨g1, g2⟩ := cells?_some.1 h
  refine ⟨fun j hj => ?_, fun j ds c s hj => ?_, fun j ds c s hj => ?_⟩
  · rw [next_write]
    rw [obj_write] at hj
    by_cases e : j = o
    · subst e; exact hw.objlt j (by rw [g1]; simp)
    · rw [if_neg e] at hj; exact hw.objlt j hj
  · rw [next_write]
    rw [obj_write] at hj
    by_cases e : j = o
    · rw [if_pos e] at hj
      cases sh with
      | none => simp at hj
      | some p => simp at hj; rw [← hj.2.1]; exact hw.clslt o cs p.1 p.2 g1
    · rw [if_neg e] at hj; exact hw.clslt j ds c s hj
  · rw [clsOf_write]
    rw [obj_write] at hj
    by_cases e : j = o
    · rw [if_pos e] at hj
      cases sh with
      | none => simp at hj
      | some p => simp at hj; obtain ⟨_, rfl, rfl⟩ := hj; simp
    · rw [if_neg e] at hj
      have := hw.clsst j ds c s hj
      cases sh with
      | none => exact this
      | some p =>
        simp only
        by_cases hc : c = p.1
        · rw [if_pos hc]; have := g2 p rfl; subst hc; simp only; omega
        · rw [if_neg hc]; exact this

/-- A write of other cells into an object that is sure. -/
theorem Rel.write {m : Mp} {H : Heap} {w w' : World} (hr : Rel m H w) (hw : HW H) {o b N : Nat} {cs cs' : List AV} {sh : Option (Nat × Nat)} (hm : m o = some (b, N))
    (h : H.cells? o = .some cs sh) {c c' : Array Value} {e : TypeId} {fz : Nat × Nat} (hb : w.heap[b]? = some (.cells c e fz)) (hl : cs'.length = cs.length) (hc : c'.size = c.size)
    (hv : ∀ (i : Nat) (a : AV), cs'[i]? = some a → ∃ v, c'[i]? = some v ∧ VR m a v) (ho : Only w w' b c' e fz) (hro : roSh sh = false) : Rel m (H.write o sh cs') w' := by
  obtain ⟨g1, g2⟩ := cells?_some.1 h
  obtain ⟨c0, e0, fz0, hb0, hN, hfz⟩ := hr.cells o b N cs sh hm g1
  rw [hb] at hb0; cases hb0
  refine ⟨fun j p hj => by rw [next_write]; exact hr.dom j p hj, fun j b' N' hj => by rw [ho.size]; exact hr.blk j b' N' hj, ?_, ?_, ?_, ?_, ?_, ?_⟩
  · intro j b' N' ds sh' hj hobj
    have : ∃ ds0 sh0, H.obj j = .cells ds0 sh0 ∧ (roSh sh' = false → roSh sh0 = false) := by
      rw [obj_write] at hobj
      by_cases e : j = o
      · subst e; exact ⟨_, _, g1, fun _ => hro⟩
      · rw [if_neg e] at hobj; exact ⟨_, _, hobj, fun h => h⟩
    obtain ⟨ds0, sh0, hobj0, hro0⟩ := this
    obtain ⟨c1, e1, fz1, hb1, hN1, hfz1⟩ := hr.cells j b' N' ds0 sh0 hj hobj0
    by_cases hbb : b' = b
    · subst hbb
      rw [hb] at hb1; cases hb1
      exact ⟨c', _, _, ho.here, by omega, fun q => hfz1 (hro0 q)⟩
    · exact ⟨c1, e1, fz1, by rw [ho.other b' hbb]; exact hb1, hN1, fun q => hfz1 (hro0 q)⟩
  · intro j b' N' ds sh' hj hcs
    rcases cells?_write hw h hcs with ⟨rfl, rfl, rfl⟩ | ⟨hne, hcs0, hcl⟩
    · rw [hm] at hj; cases hj
      have := (hr.sure _ _ _ cs sh hm h).1
      refine ⟨by omega, fun i a hi => ?_⟩
      obtain ⟨v, h1, h2⟩ := hv i a hi
      exact ⟨v, by rw [cell?_of ho.here]; exact h1, h2⟩
    · have hbb : b' ≠ b := by
        rintro rfl
        obtain ⟨c2, s2, h1, h2⟩ := hr.sep o j b' N N' cs sh ds sh' hm hj (Ne.symm hne) h hcs0
        exact hcl _ _ h1 h2 rfl
      obtain ⟨h1, h2⟩ := hr.sure j b' N' ds sh' hj hcs0
      refine ⟨h1, fun i a hi => ?_⟩
      rw [ho.cell hbb]; exact h2 i a hi
  · intro j p ds c2 s2 hj hcs
    rw [clsOf_write]
    rcases cells?_write hw h hcs with ⟨rfl, rfl, hsh⟩ | ⟨hne, hcs0, hcl⟩
    · cases sh with
      | none => simp at hsh
      | some q =>
        simp at hsh
        obtain ⟨rfl, rfl⟩ := hsh
        simp only [if_pos]
        have := hr.ext j (b, N) cs q.1 q.2 hm h
        omega
    · have := hr.ext j p ds c2 s2 hj hcs0
      cases sh with
      | none => exact this
      | some q => simp only; rw [if_neg (hcl q (c2, s2) rfl rfl)]; exact this
  · intro j j' b' N' N'' ds sh1 ds' sh2 hj hj' hne hcs hcs'
    rcases cells?_write hw h hcs with ⟨rfl, rfl, hsh⟩ | ⟨hne1, hcs0, hcl⟩
    · rcases cells?_write hw h hcs' with ⟨rfl, _, _⟩ | ⟨hne2, hcs0', hcl'⟩
      · exact absurd rfl hne
      · exfalso
        obtain ⟨c2, s2, h1, h2⟩ := hr.sep j j' b' N' N'' cs sh ds' sh2 hj hj' hne h hcs0'
        exact hcl' _ _ h1 h2 rfl
    · rcases cells?_write hw h hcs' with ⟨rfl, _, _⟩ | ⟨hne2, hcs0', hcl'⟩
      · exfalso
        obtain ⟨c2, s2, h1, h2⟩ := hr.sep j j' b' N' N'' ds sh1 cs sh hj hj' hne hcs0 h
        exact hcl _ _ h2 h1 rfl
      · exact hr.sep j j' b' N' N'' ds sh1 ds' sh2 hj hj' hne hcs0 hcs0'
  · intro j b' N' es hj hobj
    rw [obj_write] at hobj
    by_cases e : j = o
    · rw [if_pos e] at hobj; cases hobj
    · rw [if_neg e] at hobj
      obtain ⟨l, clk, h1, h2⟩ := hr.map j b' N' es hj hobj
      have hbb : b' ≠ b := by rintro rfl; rw [hb] at h1; cases h1
      exact ⟨l, clk, by rw [ho.other b' hbb]; exact h1, h2⟩
  · intro j j' b' N' N'' es es' hj hj' hobj hobj'
    rw [obj_write] at hobj hobj'
    by_cases e : j = o
    · rw [if_pos e] at hobj; cases hobj
    · by_cases e' : j' = o
      · rw [if_pos e'] at hobj'; cases hobj'
      · rw [if_neg e] at hobj; rw [if_neg e'] at hobj'
        exact hr.mapsep j j' b' N' N'' es es' hj hj' hobj hobj'

/-- What is never written lies in another class, and in another block. -/
theorem ro_class {H : Heap} {o j : Nat} {cs ds : List AV} {sh sh' : Option (Nat × Nat)} (h : H.cells? o = .some cs sh) (hro : roSh sh = false) (hj : H.cells? j = .some ds sh') (hs : roSh sh' = true) :
    ∀ p q, sh = some p → sh' = some q → q.1 ≠ p.1 := by
  rintro p q rfl rfl e
  have h1 := (cells?_some.1 h).2 p rfl
  have h2 := (cells?_some.1 hj).2 q rfl
  rw [e, h1] at h2
  have a1 : Nat.beq p.2 4611686018427387904 = false := hro
  have a2 : Nat.beq q.2 4611686018427387904 = true := hs
  rw [h2, a2] at a1; cases a1
theorem ro_block {m : Mp} {H : Heap} {w : World} (hr : Rel m H w) {o j b b' N N' : Nat} {cs ds : List AV} {sh sh' : Option (Nat × Nat)} (hm : m o = some (b, N)) (hmj : m j = some (b', N')) (h : H.cells? o = .some cs sh) (hro : roSh sh = false)
    (hj : H.cells? j = .some ds sh') (hs : roSh sh' = true) : b' ≠ b := by
  rintro rfl
  by_cases e : o = j
  · subst e
    rw [h] at hj; cases hj
    rw [hro] at hs; cases hs
  · obtain ⟨c, s, h1, h2⟩ := hr.sep o j b' N N' cs sh ds sh' hm hmj e h hj
    rw [h1] at hro; rw [h2] at hs
    rw [hro] at hs; cases hs

theorem Step.write {m : Mp} {H : Heap} {w w' : World} (hr : Rel m H w) (hw : HW H) {o b N : Nat} {cs cs' : List AV} {sh : Option (Nat × Nat)} (hm : m o = some (b, N))
    (h : H.cells? o = .some cs sh) {c c' : Array Value} {e : TypeId} {fz : Nat × Nat} (hb : w.heap[b]? = some (.cells c e fz)) (hl : cs'.length = cs.length) (hc : c'.size = c.size)
    (hv : ∀ (i : Nat) (a : AV), cs'[i]? = some a → ∃ v, c'[i]? = some v ∧ VR m a v) (ho : Only w w' b c' e fz) (hro : roSh sh = false) : Step m H w m (H.write o sh cs') w' :=
  ⟨hr.write hw hm h hb hl hc hv ho hro, hw.write h, m.le_refl, fun _ _ _ h => .inl h, fun k _ hk => ho.other k (fun e => hk o N (by rw [e]; exact hm)), by rw [ho.size]; exact Nat.le_refl _,
    by rw [next_write]; exact Nat.le_refl _, ho.os, ho.tape, ho.output, by
      have g1 := (cells?_some.1 h).1
      refine ⟨fun j _ hj => ?_, fun k _ hl => ⟨?_, ?_⟩⟩
      · rw [obj_write, if_neg (fun e => by rw [e, hm] at hj; cases hj)]
      · rw [clsOf_write]
        cases sh with
        | none => rfl
        | some p =>
          have : k ≠ p.1 := fun e => hl o _ cs p.2 hm (by rw [g1, e])
          simp [this]
      · intro j p ds s hj
        rw [obj_write]
        by_cases e : j = o
        · rw [if_pos e]
          cases sh with
          | none => intro hh; cases hh
          | some q =>
            intro hh
            have : k = q.1 := by simp at hh; exact hh.2.1.symm
            exact hl o _ cs q.2 hm (by rw [g1, this])
        · rw [if_neg e]; exact hl j p ds s hj, fun j b' N' ds sh' hj hcj hs => by
      have hcl := ro_class h hro hcj hs
      refine ⟨?_, ho.other b' (ro_block hr hm hj h hro hcj hs)⟩
      obtain ⟨g1, g2⟩ := cells?_some.1 hcj
      have hne : j ≠ o := by
        rintro rfl
        rw [h] at hcj; cases hcj
        rw [hro] at hs; cases hs
      refine cells?_some.2 ⟨by rw [obj_write, if_neg hne]; exact g1, fun q hq => ?_⟩
      rw [clsOf_write]
      cases sh with
      | none => exact g2 q hq
      | some p => simp only; rw [if_neg (hcl p q rfl hq)]; exact g2 q hq⟩

end Go.Ai
