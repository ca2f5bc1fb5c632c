/- append; copies; what is cleared; conversions. -/
import Derived.Test.YtmbohkdfdolkkaaGreatDoorAiO9
import Derived.Lib.ConvBytes
import Derived.Laws.BytesString
namespace Go.Ai
open Go
section
variable {P : Program} {T : Tab} {m : Mp}

theorem all_one {as : List AV} {vs : List Value} (h : VRs m as vs) (hs : lall AV.single as = true) : ∀ v ∈ vs, v.oneCell' = true := by
  have h' : VRs m as vs.toArray.toList := by simpa using h
  have := (VR.cells (VR.agg h') hs).2
  intro v hv
  exact this v (by simpa [Value.cells] using hv)

theorem argT_eq {ts : Array TypeId} {K : TK} (h : argT T ts.toList = K) (hk : K.known = true) : ∃ tx, ts[1]? = some tx ∧ T.kind tx = K := by
  obtain ⟨l⟩ := ts
  match l, h with
  | [], h => subst h; cases hk
  | [_], h => subst h; cases hk
  | _ :: tx :: _, h => exact ⟨tx, rfl, h⟩

theorem lenOfA_cases {α : Type} {d r : α} {f : Nat → α} {x : AV} {x' : Value} (hx : VR m x x') (h : lenOfA d f x = r) (hr : r ≠ d) : ∃ n, f n = r ∧ Builtin.lenOf x' = Pure.pure n := by
  unfold lenOfA at h
  cases hx <;> try (exact absurd h.symm hr)
  case str s =>
    refine ⟨llen s.data.toList, h, ?_⟩
    rw [llen_eq]; simp [Builtin.lenOf]
  case sl0 => exact ⟨0, h, rfl⟩
  case sl o b N off off' len cap cap' ex es hm hl hc' hN ho hex => exact ⟨len, h, rfl⟩

theorem list_cases {α β : Type} {l : List α} {d r : β} {f : α → List α → β} (h : List.casesOn (motive := fun _ => β) l d f = r) (hr : r ≠ d) : ∃ a t, l = a :: t ∧ f a t = r := by
  cases l with
  | nil => exact absurd h.symm hr
  | cons a t => exact ⟨a, t, rfl, h⟩

theorem first_of {ts : Array TypeId} {t : TypeId} {r : List TypeId} (h : ts.toList = t :: r) : ts[0]? = some t := by
  rw [← Array.getElem?_toList, h]; rfl

theorem append_sound (hT : Fits T P) {H H' : Heap} {w : World} (hr : Rel m H w) (hw : HW H) {ty : TypeId} {ts : Array TypeId} {s x : AV} {s' x' : Value} (hs : VR m s s') (hx : VR m x x') {v : AV} (h : appendA T ts.toList s x H = .val v H') :
    Gives P m H w (Builtin.append_ ts ty #[s', x']) v H' := by
  unfold appendA at h
  obtain ⟨t, rest, hts, h⟩ := list_cases h (by simp)
  have ht0 := first_of hts
  obtain ⟨es, eb, zc, u8, hk, h⟩ := onSlice_cases h (by simp)
  obtain ⟨e, ie, z, hu, hi, rfl, rfl, hz, rfl, _⟩ := kindOf_slice (hT.kind hk (by simp))
  obtain ⟨hc, h⟩ := cond_cases h (by simp)
  obtain ⟨hzl, hc⟩ := cond_and hc
  have hzl := Nat.eq_of_beq_eq_true hzl
  rw [llen_eq, cellsC_eq] at hzl
  have hs0 : ie.size ≠ 0 := by intro e; rw [beq_t e] at hc; cases hc
  rw [beq_f hs0] at hc
  have hc : cond (Nat.beq ie.bytes 0) false (lall AV.single (kindOf.cellsC (ofValue z))) = true := hc
  have hb0 : ie.bytes ≠ 0 := by intro e; rw [beq_t e] at hc; cases hc
  rw [beq_f hb0] at hc
  have hc : lall AV.single (kindOf.cellsC (ofValue z)) = true := hc
  rw [cellsC_eq] at hc
  have hzv : VRs m (ofValue z).cells z.cells.toList := cells_ofValue z
  have hzs : z.cells.size = ie.size := by rw [← hzl, hzv.length]; simp
  have hzo := all_one hzv hc
  obtain ⟨hkn, h⟩ := cond_cases h (by simp)
  cases hK : argT T ts.toList with
  | int q =>
    rw [hK] at h
    have h : natOf .fail (fun n => cond (Nat.ble n most) (appendTo ie.size ie.bytes n (lrep (kindOf.cellsC (ofValue z)) n) s H) .fail) x = .val v H' := h
    obtain ⟨k, n, rfl, h⟩ := natOf_cases h (by simp)
    obtain ⟨hn, h⟩ := cond_cases h (by simp)
    rw [ble_iff] at hn
    obtain ⟨tx, htx, hkx⟩ := argT_eq hK rfl
    cases hx
    have hsrc : Src9 P w ts ie.size ie.bytes z (.int k (Int.ofNat n)) n ((List.replicate n z.cells.toList).flatten) :=
      ⟨.inr ⟨tx, k, q, htx, kindOf_int (hT.kind hkx (by simp)), rfl, hn, hzs, rfl⟩⟩
    refine appendTo_sound hr hw ht0 hu hi hz hs0 hb0 hzs hsrc (new := lrep (kindOf.cellsC (ofValue z)) n) ?_ ?_ ?_ hs h
    · rw [cellsC_eq, lrep_eq]; exact hzv.flatten n
    · intro v hv
      simp only [List.mem_flatten, List.mem_replicate] at hv
      obtain ⟨l, ⟨_, rfl⟩, hv⟩ := hv
      exact hzo v hv
    · rw [cellsC_eq, lrep_eq]; simp [hzl]
  | _ =>
    rw [hK] at h hkn
    first
    | (exfalso; revert hkn; simp [TK.known]; done)
    | (have h : lenOfA .fail (fun n => firstA .fail (fun new => cond (lall AV.single new) (appendTo ie.size ie.bytes n new s H) .fail) ie.size n x H) x = .val v H' := h
       obtain ⟨n, h, hlen⟩ := lenOfA_cases hx h (by simp)
       obtain ⟨new, news, h, hnew, hnl, hrun⟩ := firstA_sound (P := P) hr hx h (by simp)
       obtain ⟨hone, h⟩ := cond_cases h (by simp)
       obtain ⟨tx, htx, hkx⟩ := argT_eq hK hkn
       obtain ⟨d, hd, hnd⟩ := known_not_int (P := P) (t := tx) (by rw [hT.kind hkx (by simp)]; exact hkn) (by intro k; rw [hT.kind hkx (by simp)]; simp)
       exact appendTo_sound hr hw ht0 hu hi hz hs0 hb0 hzs ⟨.inl ⟨tx, d, htx, hd, hnd, hlen, hrun⟩⟩ hnew (all_one hnew hone) hnl hs h)

theorem copy_sound (hT : Fits T P) {H H' : Heap} {w : World} (hr : Rel m H w) (hw : HW H) {ty : TypeId} {ts : Array TypeId} {s x : AV} {s' x' : Value} (hs : VR m s s') (hx : VR m x x') {v : AV} (h : copyA T ts.toList s x H = .val v H') :
    Gives P m H w (Builtin.copy_ ts ty #[s', x']) v H' := by
  unfold copyA at h
  obtain ⟨t, rest, hts, h1⟩ := list_cases h (by simp)
  have ht0 := first_of hts
  obtain ⟨es, eb, zc, u8, hk, h2⟩ := onSlice_cases h1 (by simp)
  obtain ⟨e, ie, z, hu, hi, rfl, rfl, hz, rfl, _⟩ := kindOf_slice (hT.kind hk (by simp))
  obtain ⟨n, h5, hlen⟩ := lenOfA_cases hx h2 (by simp)
  clear h h1 h2
  have h := h5
  clear h5
  cases hs <;> try (cases h; done)
  case sl0 =>
    have h : goN 0 H = .val v H' := h
    refine goN_sound hr hw h ?_
    have : ∃ news, (Builtin.firstCells ie.size 0 x').run P w = .ok news w := by
      cases x' <;> try (cases hlen; done)
      · exact ⟨_, by simp only [Builtin.firstCells, Sem.run_pure]; rfl⟩
      · rename_i base _ _
        cases base with
        | none => exact ⟨#[], by simp [Builtin.firstCells]⟩
        | some a => exact ⟨#[], by simp [Builtin.firstCells, loadCells, loadCellsFrom]⟩
    obtain ⟨news, hn⟩ := this
    simp [Builtin.copy_, ht0, run_underlying hu, hlen, sizeOf, typeInfo, hi, hn]
  case sl o b N off off' len cap cap' ex es hm hl hc' hN ho hex =>
    obtain ⟨hes, h5⟩ := cond_cases h (by simp)
    clear h
    have h := h5
    clear h5
    obtain ⟨hes, hs0⟩ := cond_and hes
    have hes := Nat.eq_of_beq_eq_true hes
    subst hes
    have hmin : cond (Nat.ble n len) n len = Nat.min n len := by
      rw [ble_dec]
      by_cases hq : n ≤ len
      · rw [decide_eq_true hq]; exact (Nat.min_eq_left hq).symm
      · rw [decide_eq_false hq]; exact (Nat.min_eq_right (show len ≤ n by omega)).symm
    have h : firstA .fail (fun new => CR.casesOn (motive := fun _ => OR) (H.cells? o) .fail fun cs sh => wr .fail sh (cond (cond (Nat.ble (Nat.add off (llen new)) (llen cs)) (lall AV.single new) false)
        (cond (Nat.beq (llen new) 0) (goN (Nat.min n len) H) (goN (Nat.min n len) (H.write o sh (lput cs off new)))) .fail)) ie.size (Nat.min n len) x H = OR.val v H' := by rw [← hmin]; exact h
    obtain ⟨new, news, h, hnew, hnl, hrun⟩ := firstA_sound (P := P) hr hx h (by simp)
    obtain ⟨cs, sh, hcs, h⟩ := cr_cases (d := OR.fail) h (by simp)
    obtain ⟨hro, h⟩ := wr_cases (d := OR.fail) h (by simp)
    obtain ⟨hle, h⟩ := cond_cases (d := OR.fail) h (by simp)
    obtain ⟨hle, hone⟩ := cond_and hle
    rw [ble_iff, llen_eq, llen_eq] at hle
    have hle : off + new.length ≤ cs.length := hle
    have hrun := hrun w rfl
    cases hz0 : Nat.beq (llen new) 0 with
    | true =>
      rw [hz0] at h
      have h0 := Nat.eq_of_beq_eq_true hz0
      rw [llen_eq] at h0
      have : new = [] := List.eq_nil_of_length_eq_zero h0
      subst this
      cases hnew
      refine goN_sound hr hw h ?_
      simp [Builtin.copy_, ht0, run_underlying hu, hlen, sizeOf, typeInfo, hi, hrun, storeCells]
    | false =>
      rw [hz0] at h
      have h0 := beqf_iff.1 hz0
      rw [llen_eq] at h0
      have hoff : off' = off := by
        rcases ho with h | h
        · exact h
        · exfalso; apply h0
          have : len = 0 := by omega
          rw [hnl, this]; simp
      subst hoff
      obtain ⟨w', hst, hstep⟩ := store_into (P := P) hr hw hm hcs hro hnew (all_one hnew hone) (off := off') hle
      have h : goN (Nat.min n len) (H.write o sh (lput cs off' new)) = .val v H' := h
      cases h
      refine ⟨goInt (Nat.min n len), w', m, ?_, ?_, ?_⟩
      · simp [Builtin.copy_, ht0, run_underlying hu, hlen, sizeOf, typeInfo, hi, hrun, hst]
      · exact .int _ _
      · exact hstep
end
end Go.Ai
