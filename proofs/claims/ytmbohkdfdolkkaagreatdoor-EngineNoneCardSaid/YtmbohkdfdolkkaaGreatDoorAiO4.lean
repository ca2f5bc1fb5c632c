/- Cells that are read and written. -/
import Derived.Test.YtmbohkdfdolkkaaGreatDoorAiO3
namespace Go.Ai
open Go

theorem addr_add (b off j : Nat) : Addr.add ⟨b, off, none⟩ j = ⟨b, off + j, none⟩ := by
  unfold Addr.add
  by_cases h : j = 0
  · subst h; simp
  · simp [h]

theorem OR.of_cases (v : AV) (H : Heap) : (v = .bad ∧ OR.of v H = .fail) ∨ (v ≠ .bad ∧ OR.of v H = .val v H) := by
  cases v <;> first | exact .inl ⟨rfl, rfl⟩ | exact .inr ⟨by simp, rfl⟩
theorem OR.of_val {v u : AV} {H H' : Heap} (h : OR.of v H = .val u H') : u = v ∧ H' = H ∧ v ≠ .bad := by
  rcases OR.of_cases v H with ⟨_, e⟩ | ⟨hb, e⟩
  · rw [e] at h; cases h
  · rw [e] at h; cases h; exact ⟨rfl, rfl, hb⟩
theorem OR.of_skip {v : AV} {H H' : Heap} (h : OR.of v H = .skip H') : False := by
  rcases OR.of_cases v H with ⟨_, e⟩ | ⟨_, e⟩ <;> rw [e] at h <;> cases h
theorem OR.of_call {v : AV} {H H' : Heap} {f : FuncId} {l : List AV} (h : OR.of v H = .call f l H') : False := by
  rcases OR.of_cases v H with ⟨_, e⟩ | ⟨_, e⟩ <;> rw [e] at h <;> cases h

section
variable {P : Program} {T : Tab} {m : Mp}

/-- What an operation that gives a value comes to. -/
def Gives (P : Program) (m : Mp) (H : Heap) (w : World) (s : Sem Value) (v : AV) (H' : Heap) : Prop :=
  ∃ v' w' m', s.run P w = .ok v' w' ∧ VR m' v v' ∧ Step m H w m' H' w'
/-- What an operation that gives none comes to. -/
def Does (P : Program) (m : Mp) (H : Heap) (w : World) (s : Sem Unit) (H' : Heap) : Prop :=
  ∃ w' m', s.run P w = .ok () w' ∧ Step m H w m' H' w'

theorem Yields.gives {s : Sem Value} {v : AV} {H : Heap} {w : World} (h : Yields P m s v) (hr : Rel m H w) (hw : HW H) : Gives P m H w s v H := by
  obtain ⟨v', h1, h2⟩ := h
  exact ⟨v', w, m, h1 w, h2, .refl hr hw⟩

theorem cells_list {w : World} {b : Nat} : ∀ (l : List AV) (off : Nat), (∀ (i : Nat) (a : AV), l[i]? = some a → ∃ v, w.cell? ⟨b, off + i, none⟩ = some v ∧ VR m a v) →
    ∃ vs : List Value, VRs m l vs ∧ ∀ (j : Nat) (v : Value), vs[j]? = some v → w.cell? (Addr.add ⟨b, off, none⟩ j) = some v
  | [], _, _ => ⟨[], .nil, fun j v h => by simp at h⟩
  | a :: l, off, h => by
    obtain ⟨v, h1, h2⟩ := h 0 a rfl
    obtain ⟨vs, h3, h4⟩ := cells_list l (off + 1) (fun i x hi => by
      have := h (i + 1) x (by simpa using hi)
      rw [show off + 1 + i = off + (i + 1) by omega]; exact this)
    refine ⟨v :: vs, .cons h2 h3, fun j u hj => ?_⟩
    cases j with
    | zero => simp at hj; subst hj; rw [addr_add]; exact h1
    | succ j =>
      have := h4 j u (by simpa using hj)
      rw [addr_add] at this ⊢
      rw [show off + (j + 1) = off + 1 + j by omega]; exact this

theorem slc_eq {α : Type} (d : α) (f : List AV → α) (l : List AV) (off n : Nat) : slc d f l off n = if off + n ≤ l.length ∨ n = 0 then f ((l.drop off).take n) else d := by
  unfold slc
  rw [ltake_eq, ldrop_eq, llen_eq, beq_dec]
  by_cases h : off + n ≤ l.length ∨ n = 0
  · rw [if_pos h, decide_eq_true (by simp; omega)]; rfl
  · rw [if_neg h, decide_eq_false (by simp; omega)]; rfl

/-- n cells of an object from a place on. -/
theorem read_slc {H : Heap} {w : World} (hr : Rel m H w) {o b N : Nat} {cs : List AV} {sh : Option (Nat × Nat)} (hm : m o = some (b, N)) (h : H.cells? o = .some cs sh) (off n : Nat) :
    ∃ vs : List Value, VRs m ((cs.drop off).take n) vs ∧ ∀ (j : Nat) (v : Value), vs[j]? = some v → w.cell? (Addr.add ⟨b, off, none⟩ j) = some v := by
  refine cells_list _ off fun i a hi => ?_
  rw [List.getElem?_take] at hi
  split at hi
  · rw [List.getElem?_drop] at hi
    exact (hr.sure o b N cs sh hm h).2 (off + i) a hi
  · cases hi

theorem partA_load {H : Heap} {w : World} (hr : Rel m H w) {o b N : Nat} {cs : List AV} {sh : Option (Nat × Nat)} (hm : m o = some (b, N)) (h : H.cells? o = .some cs sh) {t : TypeId} {d : TypeDesc} {i : TypeInfo}
    (hu : P.underlying t = some d) (hi : P.info? t = some i) {off : Nat} {v : AV} (hv : partA (kindOf.isAggC P t) i.size cs off = v) (hb : v ≠ .bad) :
    ∃ v', (loadVar t ⟨b, off, none⟩).run P w = .ok v' w ∧ VR m v v' := by
  unfold partA at hv
  unfold loadVar
  cases hag : kindOf.isAggC P t with
  | false =>
    rw [hag] at hv
    have hv : lnth .bad cs off = v := hv
    rw [lnth_eq, List.getD_eq_getElem?_getD] at hv
    cases hc : cs[off]? with
    | none => rw [hc] at hv; exact absurd hv.symm hb
    | some a =>
      rw [hc] at hv; simp at hv; subst hv
      obtain ⟨v', h1, h2⟩ := (hr.sure o b N cs sh hm h).2 off a hc
      refine ⟨v', ?_, h2⟩
      simp [isAggC_run hu, hag, h1]
  | true =>
    rw [hag] at hv
    have hv : slc .bad AV.agg cs off i.size = v := hv
    rw [slc_eq] at hv
    split at hv
    · subst hv
      rename_i hle
      obtain ⟨vs, h1, h2⟩ := read_slc hr hm h off i.size
      refine ⟨.agg vs.toArray, ?_, .agg (by simpa using h1)⟩
      have hlen : vs.length = i.size := by rw [← h1.length]; simp; omega
      have := run_loadCells_list (P := P) w ⟨b, off, none⟩ vs h2
      rw [hlen] at this
      simp [isAggC_run hu, hag, sizeOf, typeInfo, hi, this]
    · exact absurd hv.symm hb

theorem TI_known (hT : Fits T P) {t : TypeId} (h : (T.kind t).known = true) : ∃ d i, P.underlying t = some d ∧ P.info? t = some i ∧ T.size t = i.size ∧ T.agg t = kindOf.isAggC P t := by
  have e := hT.ofKind h
  have hk : (kindOf P t).known = true := by
    unfold Tab.kind at h; rw [e] at h; exact h
  obtain ⟨d, hd⟩ := known_underlying hk
  obtain ⟨i, hi⟩ := underlying_info hd
  refine ⟨d, i, hd, hi, ?_, ?_⟩
  · unfold Tab.size; rw [e]; show kindOf.sizeC P t = _; simp [kindOf.sizeC, hi]
  · unfold Tab.agg; rw [e]; rfl

theorem loadA_cases {t : TypeId} {a : AV} {H : Heap} {r : OR} (h : loadA T t a H = r) (hr : r ≠ .fail) :
    ∃ o off cs sh, a = .ptr o off ∧ (T.kind t).known = true ∧ H.cells? o = .some cs sh ∧ r = OR.of (partA (T.agg t) (T.size t) cs off) H := by
  unfold loadA at h
  cases hk : (T.kind t).known with
  | false => rw [hk] at h; exact absurd h.symm hr
  | true =>
    rw [hk] at h
    cases a <;> try (exact absurd h.symm hr)
    rename_i o off
    have h : CR.casesOn (motive := fun _ => OR) (H.cells? o) .fail (fun cs _ => OR.of (partA (T.agg t) (T.size t) cs off) H) = r := h
    cases hc : H.cells? o with
    | none => rw [hc] at h; exact absurd h.symm hr
    | some cs sh => rw [hc] at h; exact ⟨o, off, cs, sh, rfl, rfl, hc, h.symm⟩

theorem loadA_sound (hT : Fits T P) {H H' : Heap} {w : World} (hr : Rel m H w) (hw : HW H) {t : TypeId} {a : AV} {a' : Value} (ha : VR m a a') {v : AV} (h : loadA T t a H = .val v H') :
    Gives P m H w (Instr.loadAt t a') v H' := by
  obtain ⟨o, off, cs, sh, rfl, hk, hc, e⟩ := loadA_cases h (by simp)
  obtain ⟨rfl, rfl, hb⟩ := OR.of_val e.symm
  cases ha
  rename_i b N hm
  obtain ⟨d, i, hu, hi, hs, hag⟩ := TI_known hT hk
  rw [hs, hag] at hb ⊢
  obtain ⟨v', h1, h2⟩ := partA_load hr hm hc hu hi rfl hb
  refine ⟨v', w, m, ?_, h2, .refl hr hw⟩
  simp [Instr.loadAt, Instr.sureAddr, h1]

/-- Cells that are stored one by one. -/
theorem run_storeCells (b : Nat) (e : TypeId) (fz : Nat × Nat) (off : Nat) : ∀ (vs : List Value) (i : Nat) (c : Array Value) (w : World), w.heap[b]? = some (.cells c e fz) → off + i + vs.length ≤ c.size →
    (∀ j, j < c.size → ¬(fz.1 ≤ j ∧ j < fz.2)) → (∀ v ∈ vs, v.oneCell' = true) →
    ∃ w', (storeCells ⟨b, off, none⟩ vs i).run P w = .ok () w' ∧ Only w w' b (lput c.toList (off + i) vs).toArray e fz := by
  intro vs
  induction vs with
  | nil =>
    intro i c w hb _ _ _
    refine ⟨w, rfl, by rw [lput_nil]; exact hb, fun _ _ => rfl, rfl, rfl, rfl, rfl⟩
  | cons v vs ih =>
    intro i c w hb hl hf hv
    simp only [List.length_cons] at hl
    have hlt : off + i < c.size := by omega
    have hb' : b < w.heap.size := (Array.getElem?_eq_some_iff.1 hb).1
    have h1 : (store (Addr.add ⟨b, off, none⟩ i) v).run P w = .ok () (w.setCell ⟨b, off + i, none⟩ v) := by
      rw [run_store P w _ v .plain (hv v (by simp)), addr_add, cell?_of hb, Array.getElem?_eq_getElem hlt]
      simp only [frozen?_of hb]
      rw [decide_eq_false (hf _ hlt)]; rfl
    have hb2 : (w.setCell ⟨b, off + i, none⟩ v).heap[b]? = some (.cells (c.setIfInBounds (off + i) v) e fz) := by
      simp only [World.setCell, Array.getElem?_modify, hb]
      simp
    obtain ⟨w', h2, ho⟩ := ih (i + 1) (c.setIfInBounds (off + i) v) _ hb2 (by simp; omega) (by simpa using hf) (fun u hu => hv u (by simp [hu]))
    refine ⟨w', ?_, ?_, ?_, ?_, ?_, ?_, ?_⟩
    · simp only [storeCells, Sem.run_bind, h1, Result.andThen_ok, h2]
    · rw [ho.here]
      congr 3
      apply List.ext_getElem?
      intro j
      rw [lput_getElem?, lput_getElem?]
      simp only [Array.toList_setIfInBounds, List.length_set, List.length_cons, List.getElem?_set, Array.length_toList]
      by_cases hj : j = off + i
      · subst hj
        rw [if_neg (by omega), if_pos rfl, if_pos hlt, if_pos (by omega)]
        simp
      · by_cases hj2 : off + (i + 1) ≤ j ∧ j < off + (i + 1) + vs.length ∧ j < c.size
        · rw [if_pos hj2, if_pos (by omega)]
          rw [show j - (off + i) = (j - (off + (i + 1))) + 1 by omega]; simp
        · rw [if_neg hj2, if_neg (by omega), if_neg (by omega)]
    · intro k hk
      rw [ho.other k hk]
      simp only [World.setCell, Array.getElem?_modify]
      rw [if_neg (by omega)]
    · rw [ho.size]; simp [World.setCell]
    · rw [ho.os]; rfl
    · rw [ho.tape]; rfl
    · rw [ho.output]; rfl

/-- Cells laid into an object that is sure. -/
theorem store_into {H : Heap} {w : World} (hr : Rel m H w) (hw : HW H) {o b N : Nat} {cs : List AV} {sh : Option (Nat × Nat)} (hm : m o = some (b, N)) (h : H.cells? o = .some cs sh)
    (hro : roSh sh = false) {as : List AV} {vs : List Value} (hv : VRs m as vs) (h1 : ∀ x ∈ vs, x.oneCell' = true) {off : Nat} (hl : off + as.length ≤ cs.length) :
    ∃ w', (storeCells ⟨b, off, none⟩ vs).run P w = .ok () w' ∧ Step m H w m (H.write o sh (lput cs off as)) w' := by
  obtain ⟨c, e, fz, hb, hN, hf⟩ := hr.cells o b N cs sh hm (cells?_some.1 h).1
  obtain ⟨hle, hcells⟩ := hr.sure o b N cs sh hm h
  obtain ⟨w', hrun, ho⟩ := run_storeCells (P := P) b e fz off vs 0 c w hb (by rw [← hv.length, hN]; omega) (by rw [hN]; exact hf hro) h1
  refine ⟨w', hrun, Step.write hr hw hm h hb (lput_length _ _ _) (by simp [lput_length]) ?_ ho hro⟩
  intro i a hi
  rw [lput_getElem?] at hi
  simp only [Nat.add_zero, List.getElem?_toArray, lput_getElem?, Array.length_toList]
  by_cases hc : off ≤ i ∧ i < off + as.length ∧ i < cs.length
  · rw [if_pos hc] at hi
    rw [if_pos (by rw [← hv.length]; omega)]
    exact hv.get hi
  · rw [if_neg hc] at hi
    rw [if_neg (by rw [← hv.length]; have := (List.getElem?_eq_some_iff.1 hi).1; omega)]
    obtain ⟨v, h2, h3⟩ := hcells i a hi
    rw [cell?_of hb] at h2
    exact ⟨v, by rw [Array.getElem?_toList]; exact h2, h3⟩

theorem storeA_sound (hT : Fits T P) {H H' : Heap} {w : World} (hr : Rel m H w) (hw : HW H) {t : TypeId} {a v : AV} {a' v' : Value} (ha : VR m a a') (hv : VR m v v') (h : storeA T t a v H = .skip H') :
    Does P m H w (Instr.storeAt t a' v') H' := by
  unfold storeA at h
  cases hk : (T.kind t).known with
  | false => rw [hk] at h; cases h
  | true =>
    rw [hk] at h
    cases ha <;> try (cases h; done)
    rename_i o b N off hm
    have h : CR.casesOn (motive := fun _ => OR) (H.cells? o) .fail (fun cs sh => wr .fail sh (cond (cond (Nat.beq (llen v.cells) (T.size t)) (cond (Nat.ble (Nat.add off (T.size t)) (llen cs)) (lall AV.single v.cells) false) false) (.skip (H.write o sh (lput cs off v.cells))) .fail)) = .skip H' := h
    cases hc : H.cells? o with
    | none => rw [hc] at h; cases h
    | some cs sh =>
      rw [hc] at h
      obtain ⟨hro, h⟩ := wr_cases (d := OR.fail) h (by simp)
      have h : cond (cond (Nat.beq (llen v.cells) (T.size t)) (cond (Nat.ble (Nat.add off (T.size t)) (llen cs)) (lall AV.single v.cells) false) false) (OR.skip (H.write o sh (lput cs off v.cells))) .fail = .skip H' := h
      obtain ⟨d, i, hu, hi, hs, _⟩ := TI_known hT hk
      cases h1 : Nat.beq (llen v.cells) (T.size t) with
      | false => rw [h1] at h; cases h
      | true =>
        cases h2 : Nat.ble (Nat.add off (T.size t)) (llen cs) with
        | false => rw [h1, h2] at h; cases h
        | true =>
          cases h3 : lall AV.single v.cells with
          | false => rw [h1, h2, h3] at h; cases h
          | true =>
            rw [h1, h2, h3] at h
            have h : OR.skip (H.write o sh (lput cs off v.cells)) = .skip H' := h
            cases h
            obtain ⟨hvs, hone⟩ := hv.cells h3
            have e1 := Nat.eq_of_beq_eq_true h1
            rw [llen_eq] at e1
            have e2 := ble_iff.1 h2
            rw [llen_eq] at e2
            have e2' : off + T.size t ≤ cs.length := e2
            obtain ⟨w', hrun, hst⟩ := store_into (P := P) hr hw hm hc hro hvs hone (off := off) (by omega)
            refine ⟨w', m, ?_, hst⟩
            have hsz : v'.cells.size = i.size := by
              have := hvs.length
              rw [e1, hs] at this; simpa using this.symm
            simp [Instr.storeAt, Instr.sureAddr, storeVar, sizeOf, typeInfo, hi, hsz, hrun]
end
end Go.Ai
