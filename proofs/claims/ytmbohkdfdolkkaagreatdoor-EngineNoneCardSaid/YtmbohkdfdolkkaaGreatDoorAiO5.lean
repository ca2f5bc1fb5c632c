/- What is made: variables, structs, rows, maps; fields and elements. -/
import Derived.Test.YtmbohkdfdolkkaaGreatDoorAiO4
namespace Go.Ai
open Go
section
variable {P : Program} {T : Tab} {m : Mp}

theorem VR.ofCell (v : Value) : VR m (ofCell v) v := by
  unfold Ai.ofCell
  split
  all_goals first | exact .bool _ | exact .int _ _ | exact .float _ _ | exact .str _ | exact .ptr0 | exact .sl0 | exact .map0 | exact .fn0 | exact .bad _
theorem VRs.ofCells (l : List Value) : VRs m (l.map Ai.ofCell) l := by
  induction l with
  | nil => exact .nil
  | cons v l ih => exact .cons (.ofCell v) ih
theorem VR.ofValue (v : Value) : VR m (ofValue v) v := by
  unfold Ai.ofValue
  split
  · exact .tup .nil
  · exact .agg (.ofCells _)
  · exact .ofCell _
theorem cells_ofValue (v : Value) : VRs m (ofValue v).cells v.cells.toList := by
  unfold Ai.ofValue
  split
  · exact .single (.tup .nil)
  · exact .ofCells _
  · rename_i h1 h2
    have : (Ai.ofCell v).cells = [Ai.ofCell v] := by
      unfold Ai.ofCell; split <;> rfl
    rw [this]
    have h3 : v.cells = #[v] := by
      cases v <;> first | rfl | (rename_i c; obtain ⟨l⟩ := c; exact absurd rfl (h2 l))
    rw [h3]; exact .single (.ofCell v)
theorem cellsC_eq (v : AV) : kindOf.cellsC v = v.cells := by cases v <;> rfl

/-- Operands. -/
theorem VR.ev {ρ : Env} {a : Act} (h : ∀ t, VR m (ρ.get undefA t) (a.tmps.getD t undef)) (x : Operand) : VR m (ev x ρ) (a.eval x) := by
  cases x with
  | tmp t => exact h t
  | const v => exact .ofValue v
  | global g => exact .bad _
  | func f => exact .fn f .nil .nil

theorem evs_eq (l : List Operand) (ρ : Env) : evs l ρ = l.map (fun x => ev x ρ) := lmap_eq _ _
theorem VRs.evs {ρ : Env} {σ : Operand → Value} (h : ∀ x, VR m (ev x ρ) (σ x)) (l : List Operand) : VRs m (evs l ρ) (l.map σ) := by
  rw [evs_eq]
  induction l with
  | nil => exact .nil
  | cons x l ih => exact .cons (h x) ih

theorem alloc_pushed (w : World) (o : Obj) : Pushed w (w.alloc o) o := ⟨rfl, rfl, rfl, rfl⟩
theorem nofrozen (N : Nat) : ∀ i, i < N → ¬((0, 0) : Nat × Nat).1 ≤ i ∧ i < ((0, 0) : Nat × Nat).2 ∨ True := fun _ _ => .inr trivial

theorem fits_cells {cs : List AV} {c : Array Value} {e : TypeId} {sh : Option (Nat × Nat)} (h : VRs m cs c.toList) : Fits1 m c.size (.cells c e) (.cells cs sh) :=
  ⟨c, e, (0, 0), rfl, rfl, fun i _ hi => by simp at hi, by rw [h.length]; simp, fun i a hi => by
    obtain ⟨v, h1, h2⟩ := h.get hi
    exact ⟨v, by simpa using h1, h2⟩⟩

/-- A new variable. -/
theorem new_var {H : Heap} {w : World} (hr : Rel m H w) (hw : HW H) {cs : List AV} {c : Array Value} (e : TypeId) (h : VRs m cs c.toList) :
    ∃ m', VR m' (.ptr H.next 0) (.pointer (some ⟨w.heap.size, 0, none⟩)) ∧ Step m H w m' (H.new (.cells cs none)) (w.alloc (.cells c e)) := by
  refine ⟨m.add H.next (w.heap.size, c.size), .ptr 0 (Mp.add_same _ _ _), Step.new hr hw (by simp) (fits_cells h) (alloc_pushed _ _)⟩

/-- What an operation that makes one object comes to. -/
def Makes (P : Program) (m : Mp) (H : Heap) (w : World) (s : Sem Value) (v : AV) (H' : Heap) : Prop :=
  ∃ v' w' N B, s.run P w = .ok v' w' ∧ Pushed w w' B ∧ VR (m.add H.next (w.heap.size, N)) v v' ∧
    ((∃ X, (∀ cs p, X ≠ .cells cs (some p)) ∧ H' = H.new X ∧ Fits1 m N B X) ∨ ∃ cs, H' = H.newRow cs ∧ Fits1 m N B (.cells cs (some (H.next, 0))))

theorem Makes.gives {H H' : Heap} {w : World} {s : Sem Value} {v : AV} (h : Makes P m H w s v H') (hr : Rel m H w) (hw : HW H) : Gives P m H w s v H' := by
  obtain ⟨v', w', N, B, h1, h2, h3, h4⟩ := h
  refine ⟨v', w', _, h1, h3, ?_⟩
  rcases h4 with ⟨X, g1, rfl, g2⟩ | ⟨cs, rfl, g2⟩
  · exact Step.new hr hw g1 g2 h2
  · exact Step.newRow hr hw g2 h2

theorem Tab.zero_of (hT : Fits T P) {t : TypeId} {z : AV} (h : (T.ty t).zero = z) (hz : z ≠ .bad) : ∃ i v, P.info? t = some i ∧ i.zero = some v ∧ z = ofValue v := by
  rcases hT.ty t with e | e
  · rw [e] at h; exact absurd h.symm hz
  · rw [e] at h
    have h : (match (P.info? t).bind (·.zero) with | some z => ofValue z | none => AV.bad) = z := h
    cases hi : P.info? t with
    | none => rw [hi] at h; exact absurd h.symm hz
    | some i =>
      rw [hi] at h
      cases hv : i.zero with
      | none => simp [hv] at h; exact absurd h.symm hz
      | some v => simp [hv] at h; exact ⟨i, v, rfl, hv, h.symm⟩

theorem alloc_makes (hT : Fits T P) {H H' : Heap} {w : World} {e : TypeId} {v : AV} {ρ : Env} (h : opA (.alloc e) T ρ H = .val v H') :
    Makes P m H w (Instr.alloc e true (.tuple #[])) v H' := by
  have h : OR.casesOn (motive := fun _ => OR) (OR.of (T.ty e).zero H) .fail (fun z _ => .val (.ptr H.next 0) (H.new (.cells z.cells none))) (fun _ => .fail) (fun _ _ _ => .fail) = .val v H' := h
  rcases OR.of_cases (T.ty e).zero H with ⟨_, e1⟩ | ⟨hb, e1⟩
  · rw [e1] at h; cases h
  · rw [e1] at h; cases h
    obtain ⟨i, z, hi, hz, hzz⟩ := Tab.zero_of hT rfl hb
    rw [hzz]
    refine ⟨_, _, _, _, ?_, alloc_pushed _ _, .ptr 0 (Mp.add_same _ _ _), .inl ⟨_, by simp, rfl, fits_cells (e := e) (cells_ofValue (m := m) z)⟩⟩
    simp [Instr.alloc, zeroValue, typeInfo, hi, hz, newVar, newRow]

theorem alloc_sound (hT : Fits T P) {H H' : Heap} {w : World} (hr : Rel m H w) (hw : HW H) {e : TypeId} {v : AV} {ρ : Env} (h : opA (.alloc e) T ρ H = .val v H') :
    Gives P m H w (Instr.alloc e true (.tuple #[])) v H' := (alloc_makes hT h).gives hr hw

theorem box_makes {H H' : Heap} {w : World} {e : TypeId} {x : Operand} {v : AV} {ρ : Env} {x' : Value} (hx : VR m (ev x ρ) x') (h : opA (.box e x) T ρ H = .val v H') :
    Makes P m H w (Instr.box e x') v H' := by
  have h : OR.casesOn (motive := fun _ => OR) (OR.of (ev x ρ) H) .fail (fun v _ => cond (lall AV.single v.cells) (.val (.ptr H.next 0) (H.new (.cells v.cells none))) .fail) (fun _ => .fail) (fun _ _ _ => .fail) = .val v H' := h
  rcases OR.of_cases (ev x ρ) H with ⟨_, e1⟩ | ⟨hb, e1⟩
  · rw [e1] at h; cases h
  · rw [e1] at h
    have h : cond (lall AV.single (ev x ρ).cells) (OR.val (.ptr H.next 0) (H.new (.cells (ev x ρ).cells none))) .fail = .val v H' := h
    cases hs : lall AV.single (ev x ρ).cells with
    | false => rw [hs] at h; cases h
    | true =>
      rw [hs] at h; cases h
      refine ⟨_, _, _, _, ?_, alloc_pushed _ _, .ptr 0 (Mp.add_same _ _ _), .inl ⟨_, by simp, rfl, fits_cells (e := e) (hx.cells hs).1⟩⟩
      simp [Instr.box, newVar, newRow]

theorem box_sound {H H' : Heap} {w : World} (hr : Rel m H w) (hw : HW H) {e : TypeId} {x : Operand} {v : AV} {ρ : Env} {x' : Value} (hx : VR m (ev x ρ) x') (h : opA (.box e x) T ρ H = .val v H') :
    Gives P m H w (Instr.box e x') v H' := (box_makes hx h).gives hr hw

theorem setAll (l : List Value) : ∀ (off k : Nat) (c : Array Value), off + k + l.length ≤ c.size → (l.zipIdx k).foldl (fun cs (x : Value × Nat) => cs.setIfInBounds (off + x.2) x.1) c = (lput c.toList (off + k) l).toArray := by
  induction l with
  | nil => intro off k c _; rw [lput_nil]; rfl
  | cons v l ih =>
    intro off k c h
    simp only [List.length_cons] at h
    simp only [List.zipIdx_cons, List.foldl_cons]
    rw [ih off (k + 1) _ (by simp; omega)]
    congr 1
    apply List.ext_getElem?
    intro j
    rw [lput_getElem?, lput_getElem?]
    simp only [Array.toList_setIfInBounds, List.length_set, List.length_cons, List.getElem?_set, Array.length_toList]
    by_cases hj : j = off + k
    · subst hj
      rw [if_neg (by omega), if_pos rfl, if_pos (by omega), if_pos (by omega)]
      simp
    · by_cases hj2 : off + (k + 1) ≤ j ∧ j < off + (k + 1) + l.length ∧ j < c.size
      · rw [if_pos hj2, if_pos (by omega)]
        rw [show j - (off + k) = (j - (off + (k + 1))) + 1 by omega]; simp
      · rw [if_neg hj2, if_neg (by omega), if_neg (by omega)]

theorem lput_VRs {cs as : List AV} {c vs : List Value} (h : VRs m cs c) (hv : VRs m as vs) {off : Nat} (hl : off + as.length ≤ cs.length) : VRs m (lput cs off as) (lput c off vs) := by
  rw [lput_eq cs off as hl, lput_eq c off vs (by rw [← hv.length, ← h.length]; exact hl), hv.length]
  exact ((h.take _).append hv).append (h.drop _)

theorem fill_sound {place : Nat → Option (Nat × Nat)} {ρ : Env} {σ : Operand → Value} (hσ : ∀ x, VR m (ev x ρ) (σ x)) : ∀ (parts : List (Nat × Operand)) (cs cs' : List AV) (c : Array Value), VRs m cs c.toList →
    fillA place parts ρ cs = some cs' → ∃ c', Instr.fill place c (parts.map fun p => (p.1, σ p.2)) = some c' ∧ VRs m cs' c'.toList
  | [], cs, cs', c, hc, h => by
    have h : some cs = some cs' := h
    cases h; exact ⟨c, rfl, hc⟩
  | p :: parts, cs, cs', c, hc, h => by
    have h : Option.casesOn (motive := fun _ => Option (List AV)) (place p.1) none (fun q =>
      cond (cond (Nat.beq (llen (ev p.2 ρ).cells) q.2) (cond (Nat.ble (Nat.add q.1 q.2) (llen cs)) (lall AV.single (ev p.2 ρ).cells) false) false)
        (fillA place parts ρ (lput cs q.1 (ev p.2 ρ).cells)) none) = some cs' := h
    cases hp : place p.1 with
    | none => rw [hp] at h; cases h
    | some q =>
      rw [hp] at h
      have h : cond (cond (Nat.beq (llen (ev p.2 ρ).cells) q.2) (cond (Nat.ble (Nat.add q.1 q.2) (llen cs)) (lall AV.single (ev p.2 ρ).cells) false) false)
        (fillA place parts ρ (lput cs q.1 (ev p.2 ρ).cells)) none = some cs' := h
      cases h1 : Nat.beq (llen (ev p.2 ρ).cells) q.2 with
      | false => rw [h1] at h; cases h
      | true =>
        cases h2 : Nat.ble (Nat.add q.1 q.2) (llen cs) with
        | false => rw [h1, h2] at h; cases h
        | true =>
          cases h3 : lall AV.single (ev p.2 ρ).cells with
          | false => rw [h1, h2, h3] at h; cases h
          | true =>
            rw [h1, h2, h3] at h
            have h : fillA place parts ρ (lput cs q.1 (ev p.2 ρ).cells) = some cs' := h
            obtain ⟨hvs, _⟩ := (hσ p.2).cells h3
            have e1 := Nat.eq_of_beq_eq_true h1
            rw [llen_eq] at e1
            have e2 := ble_iff.1 h2
            rw [llen_eq] at e2
            have e2 : q.1 + q.2 ≤ cs.length := e2
            have hlen := hvs.length
            have hcl := hc.length
            simp only [Array.length_toList] at hlen hcl
            have hset := setAll (σ p.2).cells.toList q.1 0 c (by simp only [Array.length_toList]; omega)
            obtain ⟨c', h4, h5⟩ := fill_sound hσ parts _ cs' (lput c.toList q.1 (σ p.2).cells.toList).toArray (by simpa using lput_VRs hc hvs (off := q.1) (by omega)) h
            refine ⟨c', ?_, h5⟩
            obtain ⟨qo, qs⟩ := q
            simp only [List.map_cons, Instr.fill, hp]
            rw [if_neg (by simp; omega)]
            rw [← h4]
            congr 1
            simp only [Nat.add_zero] at hset
            rw [← hset, ← Array.foldl_toList, Array.toList_zipIdx]

theorem fieldPlace_eq (l : List (Nat × Nat × Bool)) (i : Nat) : fieldPlace l i = (l[i]?).map fun f => (f.1, f.2.1) := by
  induction l generalizing i with
  | nil => rfl
  | cons f l ih =>
    show cond (Nat.beq i 0) (some (f.1, f.2.1)) (fieldPlace l (Nat.sub i 1)) = _
    cases i with
    | zero => rfl
    | succ i => rw [beq_f (by omega)]; show fieldPlace l i = _; rw [ih]; simp

theorem places_known : ∀ l : List Field, (∀ f ∈ l, ∃ d, P.underlying f.type = some d) → l.mapM (fun f => (P.info? f.type).map fun i => (f.offset, i.size)) = some (l.map fun f => (f.offset, kindOf.sizeC P f.type))
  | [], _ => rfl
  | f :: l, h => by
    obtain ⟨d, hd⟩ := h f (by simp)
    obtain ⟨i, hi⟩ := underlying_info hd
    have := places_known l fun g hg => h g (by simp [hg])
    simp [List.mapM_cons, hi, this, kindOf.sizeC]

theorem build_sound (hT : Fits T P) {H H' : Heap} {w : World} (hr : Rel m H w) (hw : HW H) {t : TypeId} {parts : Array (Nat × Operand)} {v : AV} {ρ : Env} {σ : Operand → Value} (hσ : ∀ x, VR m (ev x ρ) (σ x))
    (h : opA (.build t parts) T ρ H = .val v H') : Gives P m H w (Instr.build t (parts.map fun (i, x) => (i, σ x))) v H' := by
  have h : (T.ty t).zero.onAgg .fail (fun z => Option.casesOn (motive := fun _ => OR)
      (TK.casesOn (motive := fun _ => Option (List AV)) (T.kind t) none none (fun _ => none) (fun _ => none) none (fun _ => none) (fun _ _ _ _ => none)
        (fun _ es _ => fillA (fun i => some (Nat.mul i es, es)) parts.toList ρ z) (fun _ _ _ => none) (fun fs => fillA (fieldPlace fs) parts.toList ρ z) none none)
      .fail fun cs => .val (.agg cs) H) = .val v H' := h
  cases hz : (T.ty t).zero <;> (rw [hz] at h) <;> (try (cases h; done))
  rename_i z
  obtain ⟨it, zv, hi, hzv, hzz⟩ := Tab.zero_of hT hz (by simp)
  have hzc : VRs m z zv.cells.toList := by
    have := cells_ofValue (m := m) zv
    rw [← hzz] at this; exact this
  have hmap : (parts.map fun (p : Nat × Operand) => (p.1, σ p.2)).toList = parts.toList.map fun p => (p.1, σ p.2) := by simp
  have h : Option.casesOn (motive := fun _ => OR)
      (TK.casesOn (motive := fun _ => Option (List AV)) (T.kind t) none none (fun _ => none) (fun _ => none) none (fun _ => none) (fun _ _ _ _ => none)
        (fun _ es _ => fillA (fun i => some (Nat.mul i es, es)) parts.toList ρ z) (fun _ _ _ => none) (fun fs => fillA (fieldPlace fs) parts.toList ρ z) none none)
      .fail (fun cs => .val (.agg cs) H) = .val v H' := h
  cases hk : T.kind t <;> (rw [hk] at h) <;> (try (cases h; done))
  case array n es ag =>
    have h : Option.casesOn (motive := fun _ => OR) (fillA (fun i => some (Nat.mul i es, es)) parts.toList ρ z) .fail (fun cs => .val (.agg cs) H) = .val v H' := h
    cases hf : fillA (fun i => some (Nat.mul i es, es)) parts.toList ρ z with
    | none => rw [hf] at h; cases h
    | some cs' =>
      rw [hf] at h; cases h
      obtain ⟨e, ie, d, hu, hie, hes, hd, _⟩ := kindOf_array (hT.kind hk (by simp))
      obtain ⟨c', h1, h2⟩ := fill_sound hσ parts.toList z cs' zv.cells hzc hf
      refine ⟨.agg c', w, m, ?_, .agg h2, .refl hr hw⟩
      refine run_build w t _ c' ?_
      unfold Program.built
      simp only [hi, hu, hzv, hie, hes]
      rw [hmap]; exact h1
  case struct l =>
    have h : Option.casesOn (motive := fun _ => OR) (fillA (fieldPlace l) parts.toList ρ z) .fail (fun cs => .val (.agg cs) H) = .val v H' := h
    cases hf : fillA (fieldPlace l) parts.toList ρ z with
    | none => rw [hf] at h; cases h
    | some cs' =>
      rw [hf] at h; cases h
      obtain ⟨fs, hu, hl, hall⟩ := kindOf_struct (hT.kind hk (by simp))
      obtain ⟨c', h1, h2⟩ := fill_sound hσ parts.toList z cs' zv.cells hzc hf
      refine ⟨.agg c', w, m, ?_, .agg h2, .refl hr hw⟩
      refine run_build w t _ c' ?_
      unfold Program.built
      have hpl := places_known (P := P) _ hall
      simp only [hi, hu, hzv, hpl]
      rw [hmap]
      have hpf : (fun i => (fs.toList.map fun f => (f.offset, kindOf.sizeC P f.type)).toArray[i]?) = fieldPlace l := by
        funext i
        rw [fieldPlace_eq, hl]; simp [List.getElem?_map, Option.map_map]; rfl
      rw [hpf]; exact h1

theorem map_range_flatten (zc : List Value) (n : Nat) (hz : zc ≠ []) : ((Array.range (n * zc.length)).map (fun i => zc.toArray[i % zc.length]!)).toList = (List.replicate n zc).flatten := by
  have hpos : 0 < zc.length := List.length_pos_iff.2 hz
  induction n with
  | zero => simp
  | succ n ih =>
    rw [List.replicate_succ', List.flatten_append, ← ih]
    apply List.ext_getElem?
    intro j
    simp only [Array.toList_map, Array.toList_range, List.getElem?_map, List.getElem?_append, List.length_map, List.length_range, List.flatten_cons, List.flatten_nil, List.append_nil]
    by_cases hj : j < n * zc.length
    · rw [if_pos hj, List.getElem?_range hj, List.getElem?_range (by rw [Nat.succ_mul]; omega)]
    · rw [if_neg hj]
      by_cases hj2 : j < (n + 1) * zc.length
      · rw [List.getElem?_range hj2]
        rw [Nat.succ_mul] at hj2
        have hq := Nat.mul_comm zc.length n
        have hmod : j % zc.length = j - n * zc.length := by
          have : j = (j - n * zc.length) + zc.length * n := by omega
          rw [this, Nat.add_mul_mod_self_left, Nat.mod_eq_of_lt (by omega)]
          omega
        simp only [Option.map_some, hmod]
        have hlt : j - n * zc.length < zc.length := by omega
        rw [List.getElem?_eq_getElem hlt]
        simp [hlt]
      · rw [List.getElem?_eq_none (by simp; omega), List.getElem?_eq_none (by rw [Nat.succ_mul] at hj2; omega)]; rfl

/-- A new row of a type's zeros. -/
theorem zero_row {z : Value} {n : Nat} (hz : (ofValue z).cells.length ≠ 0) :
    ((Array.range (n * z.cells.size)).map (fun i => z.cells[i % z.cells.size]!)).toList = (List.replicate n z.cells.toList).flatten ∧ VRs m (lrep (ofValue z).cells n) (List.replicate n z.cells.toList).flatten := by
  have h := cells_ofValue (m := m) z
  have hl := h.length
  simp only [Array.length_toList] at hl
  refine ⟨?_, by rw [lrep_eq]; exact h.flatten n⟩
  have := map_range_flatten z.cells.toList n (by intro e; apply hz; rw [hl]; have := congrArg List.length e; rw [Array.length_toList] at this; exact this)
  simpa using this

theorem new_row {H : Heap} {w : World} (hr : Rel m H w) (hw : HW H) {cs : List AV} {c : Array Value} (e : TypeId) (h : VRs m cs c.toList) {w' : World} (hp : Pushed w w' (.cells c e)) :
    Step m H w (m.add H.next (w.heap.size, c.size)) (H.newRow cs) w' := Step.newRow hr hw (fits_cells h) hp

theorem buildSlice_makes (hT : Fits T P) {H H' : Heap} {w : World} {t : TypeId} {len : Nat} {parts : Array (Nat × Operand)} {v : AV} {ρ : Env} {σ : Operand → Value} (hσ : ∀ x, VR m (ev x ρ) (σ x))
    (h : opA (.buildSlice t len parts) T ρ H = .val v H') : Makes P m H w (Instr.buildSlice t len (parts.map fun (i, x) => (i, σ x))) v H' := by
  have h : (T.kind t).onSlice .fail (fun es _ zc _ => cond (cond (Nat.beq (llen zc) es) (cond (not (Nat.beq es 0)) (Nat.ble (Nat.mul len es) 16777216) false) false)
        (Option.casesOn (motive := fun _ => OR) (fillA (fun i => some (Nat.mul i es, es)) parts.toList ρ (lrep zc len)) .fail fun cs => .val (.sl H.next 0 len len true es) (H.newRow cs)) .fail) = .val v H' := h
  cases hk : T.kind t <;> (rw [hk] at h) <;> (try (cases h; done))
  rename_i es eb zc u8
  obtain ⟨e, ie, z, hu, hie, rfl, rfl, hz, hzc, _⟩ := kindOf_slice (hT.kind hk (by simp))
  have h : cond (cond (Nat.beq (llen zc) ie.size) (cond (not (Nat.beq ie.size 0)) (Nat.ble (Nat.mul len ie.size) 16777216) false) false)
        (Option.casesOn (motive := fun _ => OR) (fillA (fun i => some (Nat.mul i ie.size, ie.size)) parts.toList ρ (lrep zc len)) .fail fun cs => .val (.sl H.next 0 len len true ie.size) (H.newRow cs)) .fail = .val v H' := h
  cases h1 : Nat.beq (llen zc) ie.size with
  | false => rw [h1] at h; cases h
  | true =>
    cases h2 : Nat.beq ie.size 0 with
    | true => rw [h1, h2] at h; cases h
    | false =>
      cases h3 : Nat.ble (Nat.mul len ie.size) 16777216 with
      | false => rw [h1, h2, h3] at h; cases h
      | true =>
        rw [h1, h2, h3] at h
        have h : Option.casesOn (motive := fun _ => OR) (fillA (fun i => some (Nat.mul i ie.size, ie.size)) parts.toList ρ (lrep zc len)) .fail (fun cs => .val (.sl H.next 0 len len true ie.size) (H.newRow cs)) = .val v H' := h
        have e1 := Nat.eq_of_beq_eq_true h1
        rw [llen_eq, hzc, cellsC_eq] at e1
        have e2 := beqf_iff.1 h2
        have e3 : len * ie.size ≤ 16777216 := ble_iff.1 h3
        cases hf : fillA (fun i => some (Nat.mul i ie.size, ie.size)) parts.toList ρ (lrep zc len) with
        | none => rw [hf] at h; cases h
        | some cs' =>
          rw [hf] at h; cases h
          rw [hzc, cellsC_eq] at hf
          obtain ⟨hrow, hvr⟩ := zero_row (m := m) (z := z) (n := len) (by omega)
          have hzl := (cells_ofValue (m := m) z).length
          simp only [Array.length_toList] at hzl
          have hsz : z.cells.size = ie.size := by omega
          obtain ⟨c', h4, h5⟩ := fill_sound hσ parts.toList _ cs' ((Array.range (len * z.cells.size)).map (fun i => z.cells[i % z.cells.size]!)) (by rw [hrow]; exact hvr) hf
          have hc'len : c'.size = len * ie.size := by
            have hfl : ∀ (parts : List (Nat × Operand)) (cs cs' : List AV), fillA (fun i => some (Nat.mul i ie.size, ie.size)) parts ρ cs = some cs' → cs'.length = cs.length := by
              intro parts
              induction parts with
              | nil => intro cs cs' h; have h : some cs = some cs' := h; cases h; rfl
              | cons p parts ih =>
                intro cs cs' h
                have h : cond (cond (Nat.beq (llen (ev p.2 ρ).cells) ie.size) (cond (Nat.ble (Nat.add (Nat.mul p.1 ie.size) ie.size) (llen cs)) (lall AV.single (ev p.2 ρ).cells) false) false)
                  (fillA (fun i => some (Nat.mul i ie.size, ie.size)) parts ρ (lput cs (Nat.mul p.1 ie.size) (ev p.2 ρ).cells)) none = some cs' := h
                cases hq : cond (Nat.beq (llen (ev p.2 ρ).cells) ie.size) (cond (Nat.ble (Nat.add (Nat.mul p.1 ie.size) ie.size) (llen cs)) (lall AV.single (ev p.2 ρ).cells) false) false with
                | false => rw [hq] at h; cases h
                | true => rw [hq] at h; rw [ih _ _ h, lput_length]
            have := hfl _ _ _ hf
            rw [h5.length] at this
            simp only [Array.length_toList] at this
            rw [this, lrep_length, e1]
          have hpu : Pushed w (w.alloc (.cells c' e)) (.cells c' e) := alloc_pushed _ _
          refine ⟨.slice (some ⟨w.heap.size, 0, none⟩) len len, _, _, _, ?_, hpu, ?_, .inr ⟨_, rfl, fits_cells h5⟩⟩
          · have hz0 : ¬ (len * ie.size = 0) ∨ len * ie.size = 0 := by omega
            have hmap : (parts.map fun (p : Nat × Operand) => (p.1, σ p.2)).toList = parts.toList.map fun p => (p.1, σ p.2) := by simp
            have h48 : ¬ (len * ie.size > 2 ^ 24) := by omega
            by_cases hz1 : len * ie.size = 0
            · have hlen0 : len = 0 := by
                rcases Nat.mul_eq_zero.1 hz1 with h | h
                · exact h
                · omega
              have hemp : (Array.range (len * z.cells.size)).map (fun i => z.cells[i % z.cells.size]!) = #[] := by rw [hlen0]; simp
              rw [hemp] at h4
              simp only [Instr.buildSlice, Sem.run_bind, run_underlying hu, Result.andThen_ok, sizeOf, typeInfo, run_program, hie, Sem.run_pure, h48, if_false, hz1, if_true]
              have h4' : Instr.fill (fun i => some (i * ie.size, ie.size)) #[] (parts.toList.map fun p => (p.1, σ p.2)) = some c' := h4
              have er : Array.map (fun _ : Nat => (default : Value)) (Array.range 0) = #[] := by rw [show Array.range 0 = #[] from by simp]; simp
              simp [hmap, er, h4', newRow]
            · simp only [Instr.buildSlice, Sem.run_bind, run_underlying hu, Result.andThen_ok, sizeOf, typeInfo, run_program, hie, Sem.run_pure, h48, if_false, hz1, zeroValue, hz]
              have h4' : Instr.fill (fun i => some (i * ie.size, ie.size)) ((Array.range (len * ie.size)).map (fun i => z.cells[i % z.cells.size]!)) (parts.toList.map fun p => (p.1, σ p.2)) = some c' := by rw [← h4, hsz]; rfl
              simp [hmap, h4', newRow]
          · exact .sl (Mp.add_same _ _ _) (Nat.le_refl _) (Nat.le_refl _) (by omega) (.inl rfl) (fun _ => rfl)

theorem buildSlice_sound (hT : Fits T P) {H H' : Heap} {w : World} (hr : Rel m H w) (hw : HW H) {t : TypeId} {len : Nat} {parts : Array (Nat × Operand)} {v : AV} {ρ : Env} {σ : Operand → Value} (hσ : ∀ x, VR m (ev x ρ) (σ x))
    (h : opA (.buildSlice t len parts) T ρ H = .val v H') : Gives P m H w (Instr.buildSlice t len (parts.map fun (i, x) => (i, σ x))) v H' := (buildSlice_makes hT hσ h).gives hr hw
end
end Go.Ai
