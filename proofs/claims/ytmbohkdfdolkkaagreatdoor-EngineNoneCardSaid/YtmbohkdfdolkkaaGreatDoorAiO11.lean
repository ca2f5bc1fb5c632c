/- What is cleared; conversions. -/
import Derived.Test.YtmbohkdfdolkkaaGreatDoorAiO10
namespace Go.Ai
open Go
section
variable {P : Program} {T : Tab} {m : Mp}

theorem clear_sound (hT : Fits T P) {H H' : Heap} {w : World} (hr : Rel m H w) (hw : HW H) {ty : TypeId} {ts : Array TypeId} {x : AV} {x' : Value} (hx : VR m x x') {v : AV} (h : clearA T ts.toList x H = .val v H') :
    Gives P m H w (Builtin.clear_ ts ty #[x']) v H' := by
  unfold clearA at h
  obtain ⟨t, rest, hts, h1⟩ := list_cases h (by simp)
  have ht0 := first_of hts
  clear h
  cases hx <;> try (cases h1; done)
  case sl0 =>
    have h1 : cond (T.kind t).isSlice (OR.val (.tup []) H) .fail = .val v H' := h1
    obtain ⟨hk, h2⟩ := cond_cases h1 (by simp)
    obtain ⟨es, eb, zc, u8, hk⟩ := TK.isSlice_iff hk
    obtain ⟨e, ie, z, hu, hi, rfl, rfl, hz, rfl, _⟩ := kindOf_slice (hT.kind hk (by simp))
    cases h2
    refine ⟨.tuple #[], w, m, ?_, .tup .nil, .refl hr hw⟩
    simp [Builtin.clear_, ht0, run_underlying hu]
  case sl o b N off off' len cap cap' ex es hm hl hc' hN ho hex =>
    obtain ⟨es', eb, zc, u8, hk, h2⟩ := onSlice_cases h1 (by simp)
    clear h1
    obtain ⟨e, ie, z, hu, hi, rfl, rfl, hz, rfl, _⟩ := kindOf_slice (hT.kind hk (by simp))
    cases hn : Nat.beq len 0 with
    | true =>
      rw [hn] at h2
      cases h2
      have hn := Nat.eq_of_beq_eq_true hn
      subst hn
      refine ⟨.tuple #[], w, m, ?_, .tup .nil, .refl hr hw⟩
      simp [Builtin.clear_, ht0, run_underlying hu]
    | false =>
      rw [hn] at h2
      have hn := beqf_iff.1 hn
      obtain ⟨hc, h3⟩ := cond_cases (d := OR.fail) h2 (by simp)
      clear h2
      obtain ⟨he, hc⟩ := cond_and hc
      obtain ⟨hzl, hone⟩ := cond_and hc
      have he := Nat.eq_of_beq_eq_true he
      subst he
      have hzl := Nat.eq_of_beq_eq_true hzl
      rw [llen_eq, cellsC_eq] at hzl
      rw [cellsC_eq] at hone
      have hzv : VRs m (ofValue z).cells z.cells.toList := cells_ofValue z
      have hzs : z.cells.size = ie.size := by rw [← hzl, hzv.length]; simp
      have hzo := all_one hzv hone
      obtain ⟨cs, sh, hcs, h4⟩ := cr_cases (d := OR.fail) h3 (by simp)
      clear h3
      obtain ⟨hro, h4⟩ := wr_cases (d := OR.fail) h4 (by simp)
      obtain ⟨hle, h5⟩ := cond_cases (d := OR.fail) h4 (by simp)
      clear h4
      cases h5
      rw [ble_iff, llen_eq] at hle
      have hle : off + len * ie.size ≤ cs.length := hle
      have hoff : off' = off := by rcases ho with h | h; · exact h
                                   · omega
      subst hoff
      have hnews : VRs m (lrep (kindOf.cellsC (ofValue z)) len) ((List.replicate len z.cells.toList).flatten) := by rw [cellsC_eq, lrep_eq]; exact hzv.flatten len
      have hlen : (lrep (kindOf.cellsC (ofValue z)) len).length = len * ie.size := by rw [cellsC_eq, lrep_eq]; simp [hzl]
      have hzz : (Builtin.zeroCells z.cells len).toList = (List.replicate len z.cells.toList).flatten := by
        by_cases h0 : z.cells.size = 0
        · apply (List.eq_nil_of_length_eq_zero (by simp [Builtin.zeroCells, h0])).trans
          exact (List.eq_nil_of_length_eq_zero (by simp [h0])).symm
        · rw [zeroCells_eq z len h0]
      obtain ⟨w', hst, hstep⟩ := store_into (P := P) hr hw hm hcs hro hnews (fun v hv => by
        simp only [List.mem_flatten, List.mem_replicate] at hv
        obtain ⟨l, ⟨_, rfl⟩, hv⟩ := hv
        exact hzo v hv) (off := off') (by rw [hlen]; exact hle)
      refine ⟨.tuple #[], w', m, ?_, .tup .nil, hstep⟩
      cases len with
      | zero => exact absurd rfl hn
      | succ k => simp [Builtin.clear_, ht0, run_underlying hu, zero_run hi hz, hzz, hst]

theorem bytesWorld_pushed (w : World) (e : TypeId) (s : ByteArray) : Pushed w (Lib.bytesWorld w e s) (.cells (Lib.bytesCells w e s) e ((Lib.bytesCells w e s).size, (Lib.bytesCells w e s).size + 1)) := by
  refine ⟨?_, ?_, ?_, ?_⟩
  · apply Array.ext_getElem?
    intro j
    rw [Array.getElem?_push]
    by_cases hj : j = w.heap.size
    · subst hj; rw [if_pos rfl, Lib.bytesWorld_at_new]
    · rw [if_neg hj]
      by_cases hl : j < w.heap.size
      · rw [Lib.bytesWorld_at_old w e s j hl]
      · rw [Array.getElem?_eq_none (by rw [Lib.bytesWorld_size]; omega), Array.getElem?_eq_none (by omega)]
  all_goals (simp only [Lib.bytesWorld, World.freeze]; split <;> rfl)

theorem bytesOf_sound : ∀ {l : List AV} {vs : List Value} {bs : List UInt8}, VRs m l vs → bytesOf l = some bs → ∃ ns : List Int, vs = ns.map (Value.int .u8) ∧ bs = ns.map fun n => UInt8.ofNat n.toNat
  | [], _, _, .nil, h => by cases h; exact ⟨[], rfl, rfl⟩
  | a :: l, _, bs, .cons (v := v) (vs := vs) ha ht, h => by
    have h : a.onInt none (fun k n => cond (keq k .u8) (Int.casesOn (motive := fun _ => Option (List UInt8)) n (fun n => Option.casesOn (motive := fun _ => Option (List UInt8)) (bytesOf l) none fun bs => some (UInt8.ofNat n :: bs)) (fun _ => none)) none) = some bs := h
    obtain ⟨k, n, rfl, h1⟩ := onInt_cases h (by simp)
    obtain ⟨hk, h2⟩ := cond_cases h1 (by simp)
    rw [keq_eq] at hk
    have hk := of_decide_eq_true hk
    subst hk
    cases n with
    | negSucc n => cases h2
    | ofNat n =>
      obtain ⟨bs', hb, h3⟩ := opt_cases h2 (by simp)
      cases h3
      obtain ⟨ns, h4, h5⟩ := bytesOf_sound ht hb
      cases ha
      exact ⟨Int.ofNat n :: ns, by rw [h4]; rfl, by rw [h5]; rfl⟩

theorem foldl_push (ns : List Int) : ∀ s : ByteArray, (ns.foldl (fun r n => r.push (UInt8.ofNat n.toNat)) s).data.toList = s.data.toList ++ ns.map fun n => UInt8.ofNat n.toNat := by
  induction ns with
  | nil => intro s; simp
  | cons n ns ih => intro s; rw [List.foldl_cons, ih]; simp [ByteArray.push]

theorem convert_sound (hT : Fits T P) {H H' : Heap} {w : World} (hr : Rel m H w) (hw : HW H) {src dst : TypeId} {x : AV} {x' : Value} (hx : VR m x x') {v : AV} (h : convertA T src dst x H = .val v H') :
    Gives P m H w (convert src dst x') v H' := by
  unfold convertA at h
  cases hx <;> try (cases h; done)
  case int k n =>
    obtain ⟨a, ha, h1⟩ := onIntK_cases h (by simp)
    obtain ⟨b, hb, h2⟩ := onIntK_cases h1 (by simp)
    cases h2
    have hs := kindOf_int (hT.kind ha (by simp))
    have hd := kindOf_int (hT.kind hb (by simp))
    refine ⟨.int b (b.wrap n), w, m, ?_, ?_, .refl hr hw⟩
    · simp [convert, run_underlying hs, run_underlying hd, Conv.intToInt]
    · rw [fwrap_eq]; exact .int _ _
  case str s =>
    obtain ⟨hk, h1⟩ := cond_cases (d := OR.fail) h (by simp)
    have hs := kindOf_string (hT.kind (TK.isString_iff hk) (by simp))
    cases hd : (T.kind dst).isString with
    | true =>
      rw [hd] at h1
      cases h1
      have hd := kindOf_string (hT.kind (TK.isString_iff hd) (by simp))
      refine ⟨.string s, w, m, ?_, .str s, .refl hr hw⟩
      simp [convert, run_underlying hs, run_underlying hd]
    | false =>
      rw [hd] at h1
      obtain ⟨es, eb, zc, u8, hk2, h2⟩ := onSlice_cases (d := OR.fail) h1 (by simp)
      obtain ⟨e, ie, z, hu, hi, rfl, rfl, hz, rfl, h8⟩ := kindOf_slice (hT.kind hk2 (by simp))
      obtain ⟨hc, h3⟩ := cond_cases (d := OR.fail) h2 (by simp)
      obtain ⟨hc, _⟩ := cond_and hc
      have h8 := h8 hc
      cases h3
      have hcap : s.size ≤ grownCap w s.size 0 e := by simp [grownCap, Question.cut]
      have hsz : (Lib.bytesCells w e s).size = grownCap w s.size 0 e := by simp [Lib.bytesCells]; omega
      have hll : llen s.data.toList = s.size := by rw [llen_eq]; simp
      refine ⟨_, _, _, Lib.run_convert_string_bytes w src dst e s hs hu h8, ?_, Step.newRow (N := (Lib.bytesCells w e s).size) hr hw ?_ (bytesWorld_pushed w e s)⟩
      · rw [hll]
        exact .sl (Mp.add_same _ _ _) hcap hcap (by rw [hsz]; omega) (.inl rfl) (by simp)
      · refine ⟨_, _, _, rfl, rfl, fun i hi => by omega, ?_, ?_⟩
        · rw [lmap_eq]; simp only [List.length_map, Array.length_toList]; rw [hsz]; exact hcap
        · intro i a hi
          rw [lmap_eq, List.getElem?_map] at hi
          cases hb : s.data.toList[i]? with
          | none => rw [hb] at hi; cases hi
          | some b =>
            rw [hb] at hi
            cases hi
            have hlt := (List.getElem?_eq_some_iff.1 hb).1
            refine ⟨.int .u8 b.toNat, ?_, .int _ _⟩
            rw [Lib.bytesCells, Array.getElem?_append_left (by simpa using hlt), Array.getElem?_map, ← Array.getElem?_toList, hb]; rfl
  case sl0 =>
    obtain ⟨hd, h1⟩ := cond_cases (d := OR.fail) h (by simp)
    have hd := kindOf_string (hT.kind (TK.isString_iff hd) (by simp))
    obtain ⟨es, eb, zc, u8, hk2, h2⟩ := onSlice_cases (d := OR.fail) h1 (by simp)
    obtain ⟨e, ie, z, hu, hi, rfl, rfl, hz, rfl, h8⟩ := kindOf_slice (hT.kind hk2 (by simp))
    obtain ⟨hc, h3⟩ := cond_cases (d := OR.fail) h2 (by simp)
    cases h3
    refine ⟨.string .empty, w, m, ?_, .str ByteArray.empty, .refl hr hw⟩
    rw [run_convert_bytes_string w src dst e none 0 0 hu (h8 hc) hd]
    simp [Conv.bytesToString]
  case sl o b N off off' len cap cap' ex es hm hl hc' hN ho hex =>
    obtain ⟨hd, h1⟩ := cond_cases (d := OR.fail) h (by simp)
    have hd := kindOf_string (hT.kind (TK.isString_iff hd) (by simp))
    obtain ⟨es', eb, zc, u8, hk2, h2⟩ := onSlice_cases (d := OR.fail) h1 (by simp)
    obtain ⟨e, ie, z, hu, hi, rfl, rfl, hz, rfl, h8⟩ := kindOf_slice (hT.kind hk2 (by simp))
    obtain ⟨hc, h3⟩ := cond_cases (d := OR.fail) h2 (by simp)
    clear h h1 h2
    obtain ⟨hcu, he⟩ := cond_and hc
    have he := Nat.eq_of_beq_eq_true he
    subst he
    obtain ⟨cs, sh, hcs, h4⟩ := cr_cases (d := OR.fail) h3 (by simp)
    have h4 : slc .fail (fun r => Option.casesOn (motive := fun _ => OR) (bytesOf r) .fail fun bs => .val (.str bs) H) cs off len = OR.val v H' := h4
    obtain ⟨hle, h5⟩ := slc_cases h4 (by simp)
    obtain ⟨bs, hbs, h6⟩ := opt_cases h5 (by simp)
    cases h6
    obtain ⟨vs, hv1, hv2⟩ := read_slc hr hm hcs off len
    obtain ⟨ns, hns, rfl⟩ := bytesOf_sound hv1 hbs
    have hlen : vs.length = len := by rw [← hv1.length]; simp; omega
    have hload : (loadCells ⟨b, off', none⟩ len).run P w = .ok (ns.map (Value.int .u8)).toArray w := by
      by_cases h0 : len = 0
      · subst h0
        have : vs = [] := List.eq_nil_of_length_eq_zero hlen
        rw [← hns, this]; simp [loadCells, loadCellsFrom]
      · have hoff : off' = off := by rcases ho with h | h; · exact h
                                     · omega
        subst hoff
        have := run_loadCells_list (P := P) w ⟨b, off', none⟩ vs hv2
        rw [hlen, hns] at this; exact this
    refine ⟨.string (ns.foldl (fun r n => r.push (UInt8.ofNat n.toNat)) ByteArray.empty), w, m, ?_, ?_, .refl hr hw⟩
    · rw [run_convert_bytes_string w src dst e _ _ _ hu (h8 hcu) hd, run_bytesToString w _ len cap' ns hload]
    · have := foldl_push ns ByteArray.empty
      have e : (ns.map fun n => UInt8.ofNat n.toNat) = (ns.foldl (fun r n => r.push (UInt8.ofNat n.toNat)) ByteArray.empty).data.toList := by rw [this]; simp
      rw [e]; exact .str _
end
end Go.Ai
