/- Slices that come in: memory that is only read. -/
import Derived.Test.YtmbohkdfdolkkaaGreatDoorAiZ
import Derived.ChangeArms
namespace Go.Ai
open Go

theorem rowAt_le {P : Program} {fits : TypeId → Bool} : ∀ {d : Nat} {e : TypeId} {count off n : Nat}, rowAt P fits d e count off n = true → off ≤ count * P.cellsOf e
  | 0, _, _, _, _, h => by cases h
  | d + 1, e, count, off, n, h => by
    unfold rowAt at h
    simp only at h
    split at h
    · cases h
    · rename_i hs
      have hpos : 0 < P.cellsOf e := Nat.pos_of_ne_zero hs
      have hdm := Nat.div_add_mod off (P.cellsOf e)
      have hlt := Nat.mod_lt off hpos
      rw [Bool.or_eq_true] at h
      rcases h with h | h
      · simp only [Bool.and_eq_true, beq_iff_eq, decide_eq_true_eq] at h
        have h1 : off / P.cellsOf e ≤ count := by omega
        have h2 := Nat.mul_le_mul_left (P.cellsOf e) h1
        rw [Nat.mul_comm (P.cellsOf e) count] at h2
        omega
      · rw [Bool.and_eq_true] at h
        have h1 : off / P.cellsOf e < count := of_decide_eq_true h.1
        have h2 := Nat.mul_le_mul_left (P.cellsOf e) h1
        rw [Nat.mul_comm (P.cellsOf e) count, Nat.mul_succ] at h2
        omega
theorem liesAt_le {P : Program} : ∀ {d : Nat} {e : TypeId} {cells off : Nat} {u : TypeId} {n : Nat}, liesAt P d e (cells / P.cellsOf e) off u n = true → off ≤ cells
  | 0, _, _, _, _, _, h => by cases h
  | d + 1, e, cells, off, u, n, h => by
    unfold liesAt at h
    rw [Bool.or_eq_true] at h
    rcases h with h | h
    · exact Nat.le_trans (rowAt_le h) (Nat.div_mul_le_self _ _)
    · split at h
      · exact liesAt_le h
      · cases h

section
variable {H : Type} {enc : TypeId × Value → H} {P : Program} {w : World}

theorem in_slice {t e : TypeId} {es base : Nat} (ht : P.underlying t = some (.slice e)) (hes : P.cellsOf e = es) (h0 : 0 < es) {a : Addr} {len cap : Nat} (hok : Cell.okWide P w .any base t (.slice (some a) len cap)) {fuel : Nat} {x : DataW H × List MemPlace}
    (hd : DataW.trod enc P w 0 (fun _ => true) true fuel t [.slice (some a) len cap] = some x) :
    ∃ b off c ty fz, a = ⟨b, off, none⟩ ∧ w.heap[b]? = some (.cells c ty fz) ∧ len ≤ cap ∧ off + cap * es ≤ c.size ∧
      ∀ k, k < len → ∃ n l y, l.length = es ∧ (∀ i, i < es → c[off + k * es + i]? = l[i]?) ∧ DataW.trod enc P w 0 (fun _ => true) true n e l = some y := by
  simp only [Cell.okWide, ht, Cell.ok] at hok
  obtain ⟨hlc, _, _, hspot, row, cells, hsh, hlies⟩ := hok
  obtain ⟨b, off, sp⟩ := a
  simp only at hspot hsh hlies
  subst hspot
  obtain ⟨c, ty, fz, hb, hcs⟩ : ∃ c ty fz, w.heap[b]? = some (.cells c ty fz) ∧ c.size = cells := by
    unfold World.shape? at hsh
    split at hsh
    · rename_i c elem fz hh; simp at hsh; exact ⟨c, elem, fz, hh, hsh.2⟩
    · cases hsh
  have hoff : off ≤ c.size := by rw [hcs]; exact liesAt_le hlies
  have hcell : ∀ i, w.cell? ⟨b, i, none⟩ = c[i]? := fun i => cell?_of hb i
  have rd : ∀ (k : Nat) (l : List Value), w.cells? 0 (Addr.add ⟨b, off, none⟩ (k * P.cellsOf e)) (P.cellsOf e) = some l → l.length = es ∧ ∀ i, i < es → c[off + k * es + i]? = l[i]? := by
    intro k l hl
    unfold World.cells? at hl
    rw [if_pos (Nat.zero_le _)] at hl
    refine ⟨by have := mapM_some_length hl; simpa [hes] using this, fun i hi => ?_⟩
    have := mapM_some_get hl i i (by rw [List.getElem?_range (by omega)])
    rw [← this, ← hcell, hes, addr_add, addr_add]
  rcases DataW.trod_slice ht hd with ⟨h, _⟩ | ⟨a', len', cap', elems, rest, n, rfl, hcs', rfl, _, _, _, hel, helems, hrest, _⟩
  · simp at h
  · simp only [List.cons.injEq, Value.slice.injEq, Option.some.injEq, and_true] at hcs'
    obtain ⟨rfl, rfl, rfl⟩ := hcs'
    obtain ⟨hrl, hrest⟩ := hrest rfl
    have each : ∀ k, k < cap → ∃ l y, w.cells? 0 (Addr.add ⟨b, off, none⟩ (k * P.cellsOf e)) (P.cellsOf e) = some l ∧ DataW.trod enc P w 0 (fun _ => true) true n e l = some y := by
      intro k hk
      by_cases hkl : k < len
      · have h1 := helems k hkl
        rw [List.getElem?_eq_getElem (by omega)] at h1
        obtain ⟨l, h2, h3⟩ := Option.bind_eq_some_iff.1 h1
        exact ⟨l, _, h2, h3⟩
      · have h1 := hrest (k - len) (by omega)
        rw [List.getElem?_eq_getElem (by omega), show len + (k - len) = k by omega] at h1
        obtain ⟨l, h2, h3⟩ := Option.bind_eq_some_iff.1 h1
        exact ⟨l, _, h2, h3⟩
    refine ⟨b, off, c, ty, fz, rfl, hb, hlc, ?_, fun k hk => ?_⟩
    · cases cap with
      | zero => omega
      | succ q =>
        obtain ⟨l, _, h2, _⟩ := each q (by omega)
        obtain ⟨h3, h4⟩ := rd q l h2
        have h5 := h4 (es - 1) (by omega)
        rw [List.getElem?_eq_getElem (by omega)] at h5
        have h6 := (Array.getElem?_eq_some_iff.1 h5).1
        rw [Nat.succ_mul]; omega
    · obtain ⟨l, y, h2, h3⟩ := each k (by omega)
      obtain ⟨h4, h5⟩ := rd k l h2
      exact ⟨n, l, y, h4, h5, h3⟩
end

/-- A cell's value, if it speaks of no object. -/
def avOf : Value → AV
  | .bool b => .bool b
  | .int k n => .int k n
  | .float k b => .float k b
  | .string s => .str s.data.toList
  | _ => .bad
theorem avOf_VR (m : Mp) (v : Value) : VR m (avOf v) v := by
  cases v <;> first | exact .bool _ | exact .int _ _ | exact .float _ _ | exact .str _ | exact .bad _

/-- Memory with one row that came in. -/
noncomputable def roHeap (cs : List AV) : Heap := ⟨.n (.cells cs (some (0, 4611686018427387904))) .e .e, .n (4611686018427387904, llen cs) .e .e, 1⟩
def m1 (b N : Nat) : Mp := fun o => if o = 0 then some (b, N) else none

theorem roHeap_obj (cs : List AV) (o : Nat) : (roHeap cs).obj o = if o = 0 then .cells cs (some (0, 4611686018427387904)) else .none := by
  by_cases h : o = 0
  · subst h; rfl
  · rw [if_neg h]
    show TT.get AObj.none (.n _ .e .e) o = _
    by_cases h1 : o % 2 = 1
    · rw [get_odd _ _ _ _ h h1]; rfl
    · rw [get_even _ _ _ _ h h1]; rfl
theorem roHeap_cells (cs : List AV) : (roHeap cs).cells? 0 = .some cs (some (0, 4611686018427387904)) := cells?_some.2 ⟨by rw [roHeap_obj, if_pos rfl], fun p h => by cases h; rfl⟩
theorem roHeap_HW (cs : List AV) : HW (roHeap cs) := by
  refine ⟨fun o h => ?_, fun o ds c s h => ?_, fun o ds c s h => ?_⟩
  · rw [roHeap_obj] at h
    by_cases e : o = 0
    · subst e; show 0 < 1; omega
    · rw [if_neg e] at h; exact absurd rfl h
  · rw [roHeap_obj] at h
    split at h
    · cases h; show 0 < 1; omega
    · cases h
  · rw [roHeap_obj] at h
    split at h
    · cases h; exact Nat.le_refl _
    · cases h
theorem roHeap_none (cs : List AV) (w : World) : Rel mn (roHeap cs) w :=
  ⟨fun _ _ h => (by cases h), fun _ _ _ h => (by cases h), fun _ _ _ _ _ h => (by cases h), fun _ _ _ _ _ h => (by cases h), fun _ _ _ _ _ h => (by cases h), fun _ _ _ _ _ _ _ _ _ h => (by cases h), fun _ _ _ _ h => (by cases h), fun _ _ _ _ _ _ _ h => (by cases h)⟩
theorem m1_some {b N o : Nat} {p : Nat × Nat} (h : m1 b N o = some p) : o = 0 ∧ p = (b, N) := by
  unfold m1 at h
  split at h
  · cases h; exact ⟨by assumption, rfl⟩
  · cases h
theorem roHeap_rel {w : World} {b : Nat} {c : Array Value} {e : TypeId} {fz : Nat × Nat} (hb : w.heap[b]? = some (.cells c e fz)) : Rel (m1 b c.size) (roHeap (c.toList.map avOf)) w := by
  have hlt : b < w.heap.size := (Array.getElem?_eq_some_iff.1 hb).1
  refine ⟨fun o p h => ?_, fun o b' N h => ?_, fun o b' N cs sh h ho => ?_, fun o b' N cs sh h ho => ?_, fun o p cs c' s h ho => ?_, fun o o' b' N N' cs sh cs' sh' h h' hne _ _ => ?_, fun o b' N es h ho => ?_, fun o o' b' N N' es es' h h' ho _ => ?_⟩
  · obtain ⟨rfl, _⟩ := m1_some h; show 0 < 1; omega
  · obtain ⟨rfl, hp⟩ := m1_some h; cases hp; exact hlt
  · obtain ⟨rfl, hp⟩ := m1_some h; cases hp
    rw [roHeap_obj, if_pos rfl] at ho; cases ho
    exact ⟨c, e, fz, hb, rfl, fun h => by cases h⟩
  · obtain ⟨rfl, hp⟩ := m1_some h; cases hp
    rw [roHeap_cells] at ho; cases ho
    refine ⟨by simp, fun i a hi => ?_⟩
    rw [List.getElem?_map, Array.getElem?_toList] at hi
    cases hv : c[i]? with
    | none => rw [hv] at hi; cases hi
    | some v => rw [hv] at hi; cases hi; exact ⟨v, by rw [cell?_of hb]; exact hv, avOf_VR _ v⟩
  · obtain ⟨rfl, _⟩ := m1_some h
    rw [roHeap_cells] at ho; cases ho
    show _ ≤ llen _
    rw [llen_eq]; exact Nat.le_refl _
  · obtain ⟨rfl, _⟩ := m1_some h
    obtain ⟨rfl, _⟩ := m1_some h'
    exact absurd rfl hne
  · obtain ⟨rfl, _⟩ := m1_some h
    rw [roHeap_obj, if_pos rfl] at ho; cases ho
  · obtain ⟨rfl, _⟩ := m1_some h
    rw [roHeap_obj, if_pos rfl] at ho; cases ho

theorem ro_below {b N : Nat} {cs : List AV} {w w' : World} {m' : Mp} {K : Heap} (h : Step (m1 b N) (roHeap cs) w m' K w') : RowKit.Below w.heap.size w w' := by
  refine ⟨h.os, h.tape, h.output, h.size, fun k hk => ?_⟩
  by_cases e : k = b
  · subst e; exact (h.ro 0 k N cs _ rfl (roHeap_cells cs) rfl).2
  · exact h.frame k hk fun o N' q => by
      obtain ⟨_, hp⟩ := m1_some q
      cases hp; exact e rfl
theorem none_below {cs : List AV} {w w' : World} {m' : Mp} {K : Heap} (h : Step mn (roHeap cs) w m' K w') : RowKit.Below w.heap.size w w' :=
  ⟨h.os, h.tape, h.output, h.size, fun k hk => h.frame k hk fun o N e => by cases e⟩

/-- A call of the machine that answers true. -/
theorem law_call_at {P : Program} {call : Caller} (hc : CallerOk P call) {f : FuncId} {args : List AV} {m : Mp} {K : Heap} (h : (call f args K).isTrue = true) (w : World) (args' : Array Value) (hr : Rel m K w) (hw : HW K) (ha : VRs m args args'.toList)
    (hb : ∀ m' K' w', Step m K w m' K' w' → RowKit.Below w.heap.size w w') : Calls P f args' w fun e w' => e = .returned (.bool true) ∧ RowKit.Below w.heap.size w w' := by
  obtain ⟨K', hK⟩ := KR.isTrue_spec h
  refine (hc f args K _ K' hK m w args' hr hw ha).mono ?_
  intro e w' hp
  rcases hp with hp | ⟨v', m', rfl, h1, h2⟩
  · exact hp.elim
  · cases h1
    exact ⟨rfl, hb _ _ _ h2⟩
end Go.Ai
