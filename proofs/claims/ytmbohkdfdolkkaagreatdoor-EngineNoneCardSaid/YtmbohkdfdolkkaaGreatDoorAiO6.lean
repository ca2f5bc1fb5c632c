/- Fields, elements, slices, rows and maps that are made. -/
import Derived.Test.YtmbohkdfdolkkaaGreatDoorAiO5
import Derived.Laws.Slices
namespace Go.Ai
open Go
section
variable {P : Program} {T : Tab} {m : Mp}

theorem natOf_cases {α : Type} {d : α} {f : Nat → α} {v : AV} {r : α} (h : natOf d f v = r) (hr : r ≠ d) : ∃ k n, v = .int k (.ofNat n) ∧ f n = r := by
  cases v <;> try (exact absurd h.symm hr)
  rename_i k n
  cases n with
  | ofNat n => exact ⟨k, n, rfl, h⟩
  | negSucc n => exact absurd h.symm hr
theorem onStruct_cases {α : Type} {d : α} {f : List (Nat × Nat × Bool) → α} {k : TK} {r : α} (h : k.onStruct d f = r) (hr : r ≠ d) : ∃ l, k = .struct l ∧ f l = r := by
  cases k <;> try (exact absurd h.symm hr)
  exact ⟨_, rfl, h⟩
theorem onSlice_cases {α : Type} {d : α} {f : Nat → Nat → List AV → Bool → α} {k : TK} {r : α} (h : k.onSlice d f = r) (hr : r ≠ d) : ∃ a b c e, k = .slice a b c e ∧ f a b c e = r := by
  cases k <;> try (exact absurd h.symm hr)
  exact ⟨_, _, _, _, rfl, h⟩
theorem onArray_cases {α : Type} {d : α} {f : Nat → Nat → Bool → α} {k : TK} {r : α} (h : k.onArray d f = r) (hr : r ≠ d) : ∃ a b c, k = .array a b c ∧ f a b c = r := by
  cases k <;> try (exact absurd h.symm hr)
  exact ⟨_, _, _, rfl, h⟩
theorem onMap_cases {α : Type} {d : α} {f : Bool → Bool → AV → α} {k : TK} {r : α} (h : k.onMap d f = r) (hr : r ≠ d) : ∃ a b c, k = .map a b c ∧ f a b c = r := by
  cases k <;> try (exact absurd h.symm hr)
  exact ⟨_, _, _, rfl, h⟩
theorem onIntK_cases {α : Type} {d : α} {f : IntKind → α} {k : TK} {r : α} (h : k.onInt d f = r) (hr : r ≠ d) : ∃ a, k = .int a ∧ f a = r := by
  cases k <;> try (exact absurd h.symm hr)
  exact ⟨_, rfl, h⟩
theorem onPtr_cases {α : Type} {d : α} {f : Nat → Nat → α} {v : AV} {r : α} (h : v.onPtr d f = r) (hr : r ≠ d) : ∃ o off, v = .ptr o off ∧ f o off = r := by
  cases v <;> try (exact absurd h.symm hr)
  exact ⟨_, _, rfl, h⟩
theorem onAgg_cases {α : Type} {d : α} {f : List AV → α} {v : AV} {r : α} (h : v.onAgg d f = r) (hr : r ≠ d) : ∃ cs, v = .agg cs ∧ f cs = r := by
  cases v <;> try (exact absurd h.symm hr)
  exact ⟨_, rfl, h⟩
theorem onTup_cases {α : Type} {d : α} {f : List AV → α} {v : AV} {r : α} (h : v.onTup d f = r) (hr : r ≠ d) : ∃ cs, v = .tup cs ∧ f cs = r := by
  cases v <;> try (exact absurd h.symm hr)
  exact ⟨_, rfl, h⟩
theorem onInt_cases {α : Type} {d : α} {f : IntKind → Int → α} {v : AV} {r : α} (h : v.onInt d f = r) (hr : r ≠ d) : ∃ k n, v = .int k n ∧ f k n = r := by
  cases v <;> try (exact absurd h.symm hr)
  exact ⟨_, _, rfl, h⟩
theorem onBool_cases {α : Type} {d : α} {f : Bool → α} {v : AV} {r : α} (h : v.onBool d f = r) (hr : r ≠ d) : ∃ b, v = .bool b ∧ f b = r := by
  cases v <;> try (exact absurd h.symm hr)
  exact ⟨_, rfl, h⟩
theorem onStr_cases {α : Type} {d : α} {f : List UInt8 → α} {v : AV} {r : α} (h : v.onStr d f = r) (hr : r ≠ d) : ∃ b, v = .str b ∧ f b = r := by
  cases v <;> try (exact absurd h.symm hr)
  exact ⟨_, rfl, h⟩
theorem cond_cases {α : Type} {b : Bool} {x d r : α} (h : cond b x d = r) (hr : r ≠ d) : b = true ∧ x = r := by
  cases b with
  | true => exact ⟨rfl, h⟩
  | false => exact absurd h.symm hr
theorem cond_and {a b : Bool} (h : cond a b false = true) : a = true ∧ b = true := by cases a <;> cases b <;> first | exact ⟨rfl, rfl⟩ | cases h
theorem opt_cases {α β : Type} {x : Option α} {d : β} {f : α → β} {r : β} (h : Option.casesOn (motive := fun _ => β) x d f = r) (hr : r ≠ d) : ∃ a, x = some a ∧ f a = r := by
  cases x with
  | none => exact absurd h.symm hr
  | some a => exact ⟨a, rfl, h⟩
theorem cr_cases {β : Type} {x : CR} {d : β} {f : List AV → Option (Nat × Nat) → β} {r : β} (h : CR.casesOn (motive := fun _ => β) x d f = r) (hr : r ≠ d) : ∃ cs sh, x = .some cs sh ∧ f cs sh = r := by
  cases x with
  | none => exact absurd h.symm hr
  | some a b => exact ⟨a, b, rfl, h⟩

theorem ofNat_nonneg (n : Nat) : (0 : Int) ≤ Int.ofNat n := Int.natCast_nonneg n

theorem fieldAddr_sound (hT : Fits T P) {H H' : Heap} {w : World} (hr : Rel m H w) (hw : HW H) {t : TypeId} {x : AV} {x' : Value} {f : Nat} (hx : VR m x x') {v : AV} (h : fieldAddrA T t x f H = .val v H') :
    Gives P m H w (Instr.fieldAt t x' f) v H' := by
  unfold fieldAddrA at h
  obtain ⟨l, hk, h⟩ := onStruct_cases h (by simp)
  obtain ⟨q, hq, h⟩ := opt_cases h (by simp)
  have h : cond (Nat.beq q.2 0) OR.fail (x.onPtr .fail fun o off => .val (.ptr o (Nat.add off q.1)) H) = .val v H' := h
  cases h0 : Nat.beq q.2 0 with
  | true => rw [h0] at h; cases h
  | false =>
    rw [h0] at h
    obtain ⟨o, off, rfl, h⟩ := onPtr_cases (d := OR.fail) h (by simp)
    cases h
    cases hx
    rename_i b N hm
    obtain ⟨fs, hu, hl, hall⟩ := kindOf_struct (hT.kind hk (by simp))
    rw [fieldPlace_eq, hl, List.getElem?_map] at hq
    obtain ⟨g, hg, rfl⟩ := Option.map_eq_some_iff.1 hq
    obtain ⟨fd, hfd, rfl⟩ := Option.map_eq_some_iff.1 hg
    obtain ⟨d, hd⟩ := hall fd (List.mem_of_getElem? hfd)
    obtain ⟨i, hi⟩ := underlying_info hd
    have hs : kindOf.sizeC P fd.type = i.size := by simp [kindOf.sizeC, hi]
    have h0 : ¬ i.size = 0 := by rw [← hs]; exact beqf_iff.1 h0
    refine ⟨_, w, m, ?_, .ptr (off + fd.offset) hm, .refl hr hw⟩
    have hfd' : fs[f]? = some fd := by simpa using hfd
    simp [Instr.fieldAt, run_underlying hu, hfd', Instr.sureAddr, Go.fieldPlace, sizeOf, typeInfo, hi, h0, addr_add]

theorem part_sound {cs : List AV} {c : Array Value} (hc : VRs m cs c.toList) {t : TypeId} {d : TypeDesc} {i : TypeInfo} (hu : P.underlying t = some d) (hi : P.info? t = some i) {off : Nat} {v : AV}
    (hv : partA (kindOf.isAggC P t) i.size cs off = v) (hb : v ≠ .bad) (w : World) : ∃ v', (part t c off).run P w = .ok v' w ∧ VR m v v' := by
  unfold partA at hv
  unfold part
  cases hag : kindOf.isAggC P t with
  | false =>
    rw [hag] at hv
    have hv : lnth .bad cs off = v := hv
    rw [lnth_eq, List.getD_eq_getElem?_getD] at hv
    cases hcs : cs[off]? with
    | none => rw [hcs] at hv; exact absurd hv.symm hb
    | some a =>
      rw [hcs] at hv; simp at hv; subst hv
      obtain ⟨v', h1, h2⟩ := hc.get hcs
      refine ⟨v', ?_, h2⟩
      have h1' : c[off]? = some v' := by simpa using h1
      simp [isAggC_run hu, hag, h1']
  | true =>
    rw [hag] at hv
    have hv : slc .bad AV.agg cs off i.size = v := hv
    rw [slc_eq] at hv
    split at hv
    · subst hv
      refine ⟨.agg (c.extract off (off + i.size)), ?_, .agg ?_⟩
      · simp [isAggC_run hu, hag, sizeOf, typeInfo, hi]
      · have := (hc.drop off).take i.size
        simpa [Array.toList_extract, List.extract_eq_take_drop] using this
    · exact absurd hv.symm hb

theorem field_sound (hT : Fits T P) {H H' : Heap} {w : World} (hr : Rel m H w) (hw : HW H) {t : TypeId} {x : AV} {x' : Value} {f : Nat} (hx : VR m x x') {v : AV} (h : fieldA T t x f H = .val v H') :
    Gives P m H w (Instr.field t x' f) v H' := by
  unfold fieldA at h
  obtain ⟨l, hk, h⟩ := onStruct_cases h (by simp)
  have h : cond (Nat.blt f (llen l)) (x.onAgg .fail fun cs => OR.of (partA (lnth (0, 0, false) l f).2.2 (lnth (0, 0, false) l f).2.1 cs (lnth (0, 0, false) l f).1) H) .fail = .val v H' := h
  obtain ⟨hlt, h⟩ := cond_cases h (by simp)
  obtain ⟨cs, rfl, h⟩ := onAgg_cases h (by simp)
  obtain ⟨rfl, rfl, hb⟩ := OR.of_val h
  cases hx
  rename_i c hc
  obtain ⟨fs, hu, hl, hall⟩ := kindOf_struct (hT.kind hk (by simp))
  rw [blt_iff, llen_eq, hl, List.length_map] at hlt
  obtain ⟨fd, hfd⟩ : ∃ fd, fs.toList[f]? = some fd := ⟨_, List.getElem?_eq_getElem hlt⟩
  have hq : lnth (0, 0, false) l f = (fd.offset, kindOf.sizeC P fd.type, kindOf.isAggC P fd.type) := by
    rw [lnth_eq, List.getD_eq_getElem?_getD, hl, List.getElem?_map, hfd]; rfl
  rw [hq] at hb ⊢
  obtain ⟨d, hd⟩ := hall fd (List.mem_of_getElem? hfd)
  obtain ⟨i, hi⟩ := underlying_info hd
  have hs : kindOf.sizeC P fd.type = i.size := by simp [kindOf.sizeC, hi]
  simp only [hs] at hb ⊢
  obtain ⟨v', h1, h2⟩ := part_sound hc hd hi rfl hb w
  refine ⟨v', w, m, ?_, h2, .refl hr hw⟩
  have hfd' : fs[f]? = some fd := by simpa using hfd
  simp [Instr.field, run_underlying hu, hfd', asAgg, h1]

theorem indexAddr_sound (hT : Fits T P) {H H' : Heap} {w : World} (hr : Rel m H w) (hw : HW H) {t : TypeId} {x i : AV} {x' i' : Value} (hx : VR m x x') (hi : VR m i i') {v : AV} (h : indexAddrA T t x i H = .val v H') :
    Gives P m H w (Instr.indexAt t x' i') v H' := by
  unfold indexAddrA at h
  obtain ⟨k, n, rfl, h⟩ := natOf_cases h (by simp)
  cases hi
  have hn0 : (0 : Int) ≤ Int.ofNat n := ofNat_nonneg n
  have htn : (Int.ofNat n).toNat = n := rfl
  cases hx <;> try (cases h; done)
  case ptr o b N off hm _ =>
    have h : (T.kind t).onArray .fail (fun len es _ => cond (cond (Nat.blt n len) (not (Nat.beq es 0)) false) (OR.val (.ptr o (Nat.add off (Nat.mul n es))) H) .fail) = .val v H' := h
    obtain ⟨len, es, ag, hk, h⟩ := onArray_cases h (by simp)
    obtain ⟨hc, h⟩ := cond_cases h (by simp)
    cases h
    obtain ⟨hlt, _⟩ := cond_and hc
    rw [blt_iff] at hlt
    obtain ⟨e, ie, d, hu, hie, rfl, hd, _⟩ := kindOf_array (hT.kind hk (by simp))
    refine ⟨_, w, m, ?_, .ptr (off + n * ie.size) hm, .refl hr hw⟩
    have hin : (0 : Int) ≤ Int.ofNat n ∧ Int.ofNat n < (len : Int) := ⟨hn0, by show (n : Int) < len; omega⟩
    simp [Instr.indexAt, asIntOf, run_underlying hu, Instr.sureAddr, sizeOf, typeInfo, hie, addr_add, hlt]
  case sl o b N off off' len cap cap' ex es hm hl hc hN ho hex _ =>
    have h : (T.kind t).onSlice .fail (fun es' _ _ _ => cond (cond (Nat.blt n len) (cond (Nat.beq es es') (not (Nat.beq es 0)) false) false) (OR.val (.ptr o (Nat.add off (Nat.mul n es))) H) .fail) = .val v H' := h
    obtain ⟨es', eb, zc, u8, hk, h⟩ := onSlice_cases h (by simp)
    obtain ⟨hcc, h⟩ := cond_cases h (by simp)
    cases h
    obtain ⟨hlt, hc2⟩ := cond_and hcc
    obtain ⟨hes, _⟩ := cond_and hc2
    rw [blt_iff] at hlt
    obtain ⟨e, ie, z, hu, hie, rfl, rfl, _⟩ := kindOf_slice (hT.kind hk (by simp))
    have hes := Nat.eq_of_beq_eq_true hes
    subst hes
    have hoff : off' = off := by rcases ho with h | h; · exact h
                                 · omega
    subst hoff
    refine ⟨_, w, m, ?_, .ptr (off' + n * ie.size) hm, .refl hr hw⟩
    have hin : (0 : Int) ≤ Int.ofNat n ∧ Int.ofNat n < (len : Int) := ⟨hn0, by show (n : Int) < len; omega⟩
    simp [Instr.indexAt, asIntOf, run_underlying hu, sizeOf, typeInfo, hie, addr_add, hlt]

theorem index_sound (hT : Fits T P) {H H' : Heap} {w : World} (hr : Rel m H w) (hw : HW H) {t : TypeId} {x i : AV} {x' i' : Value} (hx : VR m x x') (hi : VR m i i') {v : AV} (h : indexA T t x i H = .val v H') :
    Gives P m H w (Instr.index t x' i') v H' := by
  unfold indexA at h
  obtain ⟨k, n, rfl, h⟩ := natOf_cases h (by simp)
  cases hi
  have hn0 : (0 : Int) ≤ Int.ofNat n := ofNat_nonneg n
  have htn : (Int.ofNat n).toNat = n := rfl
  cases hx <;> try (cases h; done)
  case str s _ =>
    have h : cond (cond (T.kind t).isString (Nat.blt n (llen s.data.toList)) false) (OR.val (byteV (lnth 0 s.data.toList n)) H) .fail = .val v H' := h
    obtain ⟨hc, h⟩ := cond_cases h (by simp)
    cases h
    obtain ⟨hk, hlt⟩ := cond_and hc
    rw [blt_iff, llen_eq] at hlt
    have hu := kindOf_string (hT.kind (TK.isString_iff hk) (by simp))
    have hlt' : n < s.size := by simpa using hlt
    have hb : s[n]? = some s[n] := ByteArray.getElem?_lt' s n hlt'
    refine ⟨.int .u8 (s[n].toNat : Int), w, m, ?_, ?_, .refl hr hw⟩
    · simp [Instr.index, asIntOf, run_underlying hu, hn0, htn, hb]
    · have : lnth 0 s.data.toList n = s[n] := by
        rw [lnth_eq, List.getD_eq_getElem?_getD, List.getElem?_eq_getElem hlt]; rfl
      rw [this]; exact .int _ _
  case agg cs c hc _ =>
    have h : (T.kind t).onArray .fail (fun len es ag => cond (Nat.blt n len) (OR.of (partA ag es cs (Nat.mul n es)) H) .fail) = .val v H' := h
    obtain ⟨len, es, ag, hk, h⟩ := onArray_cases h (by simp)
    obtain ⟨hlt, h⟩ := cond_cases h (by simp)
    rw [blt_iff] at hlt
    obtain ⟨rfl, rfl, hb⟩ := OR.of_val h
    obtain ⟨e, ie, d, hu, hie, rfl, hd, rfl⟩ := kindOf_array (hT.kind hk (by simp))
    obtain ⟨v', h1, h2⟩ := part_sound hc hd hie rfl hb w
    refine ⟨v', w, m, ?_, h2, .refl hr hw⟩
    have hin : (0 : Int) ≤ Int.ofNat n ∧ Int.ofNat n < (len : Int) := ⟨hn0, by show (n : Int) < len; omega⟩
    have h1' : (part e c (n * ie.size)).run P w = .ok v' w := h1
    simp [Instr.index, asIntOf, run_underlying hu, sizeOf, typeInfo, hie, hlt, h1']

theorem makeMap_makes {H : Heap} {w : World} (t : TypeId) : Makes P m H w (Instr.makeMap t none) (.map H.next) (H.new (.map [])) := by
  refine ⟨.map (some w.heap.size), w.alloc (.map #[] 0), 0, _, ?_, alloc_pushed _ _, .map (Mp.add_same _ _ _), .inl ⟨_, by simp, rfl, ⟨#[], 0, rfl, .nil, MapKept.stamped_empty 0⟩⟩⟩
  simp [Instr.makeMap]
theorem makeMap_sound {H : Heap} {w : World} (hr : Rel m H w) (hw : HW H) (t : TypeId) : Gives P m H w (Instr.makeMap t none) (.map H.next) (H.new (.map [])) := (makeMap_makes t).gives hr hw

theorem makeSlice_makes (hT : Fits T P) {H H' : Heap} {w : World} {t : TypeId} {l c : AV} {l' c' : Value} (hl : VR m l l') (hc : VR m c c') {v : AV} (h : makeSliceA T t l c H = .val v H') :
    Makes P m H w (Instr.makeSlice t l' c') v H' := by
  unfold makeSliceA at h
  obtain ⟨es, eb, zc, u8, hk, h⟩ := onSlice_cases h (by simp)
  obtain ⟨k1, nl, rfl, h⟩ := natOf_cases h (by simp)
  obtain ⟨k2, nc, rfl, h⟩ := natOf_cases (d := OR.fail) (v := c) h (by simp)
  obtain ⟨hcc, h⟩ := cond_cases h (by simp)
  cases h
  obtain ⟨hle, hcc⟩ := cond_and hcc
  obtain ⟨hb, hcc⟩ := cond_and hcc
  obtain ⟨hm, hcc⟩ := cond_and hcc
  obtain ⟨hz1, hz2⟩ := cond_and hcc
  cases hl; cases hc
  obtain ⟨e, ie, z, hu, hie, rfl, rfl, hz, hzc, _⟩ := kindOf_slice (hT.kind hk (by simp))
  rw [ble_iff] at hle hb hm
  have hb : nc * ie.bytes ≤ 70368744177664 := hb
  have hm : nc ≤ 70368744177664 := hm
  have e1 := Nat.eq_of_beq_eq_true hz1
  rw [llen_eq, hzc, cellsC_eq] at e1
  have e2 : ie.size ≠ 0 := by
    intro e; rw [e] at hz2; cases hz2
  obtain ⟨hrow, hvr⟩ := zero_row (m := m) (z := z) (n := nc) (by omega)
  have hzl := (cells_ofValue (m := m) z).length
  simp only [Array.length_toList] at hzl
  have hsz : z.cells.size = ie.size := by omega
  have hwc : IntKind.i64.wrap (Int.ofNat nc) = Int.ofNat nc := wrap_ofNat .i64 nc (by simp [lim]; omega)
  have hwl : IntKind.i64.wrap (Int.ofNat nl) = Int.ofNat nl := wrap_ofNat .i64 nl (by simp [lim]; omega)
  have hnz : ∀ n : Nat, Int.ofNat n = (n : Int) := fun _ => rfl
  have hwc' : IntKind.i64.wrap (nc : Int) = (nc : Int) := hwc
  have hwl' : IntKind.i64.wrap (nl : Int) = (nl : Int) := hwl
  rw [hzc, cellsC_eq]
  let row := (Array.range (nc * z.cells.size)).map (fun i => z.cells[i % z.cells.size]!)
  have hrs : row.size = nc * ie.size := by simp [row, hsz]
  refine ⟨.slice (some ⟨w.heap.size, 0, none⟩) nl nc, w.alloc (.cells row e), row.size, _, ?_, alloc_pushed _ _, ?_, .inr ⟨_, rfl, fits_cells (by rw [hrow]; exact hvr)⟩⟩
  · have htl : ¬ ((nc : Int) < 0 ∨ (ie.bytes : Int) * (nc : Int) > 2 ^ 48) := by
      rw [← Int.natCast_mul]
      have : ie.bytes * nc = nc * ie.bytes := Nat.mul_comm _ _
      omega
    have hcond : ¬ (((nc : Int) < 0 ∨ (281474976710656 : Int) < (ie.bytes : Int) * (nc : Int)) ∨ (nl : Int) < 0) := by omega
    have hcond2 : ¬ ((nc : Int) < (nl : Int)) := by omega
    by_cases h0 : nc * ie.size = 0
    · have hr0 : row = #[] := by apply Array.eq_empty_of_size_eq_zero; rw [hrs, h0]
      simp only [Instr.makeSlice, Sem.run_bind, run_underlying hu, Result.andThen_ok, asInt, asIntOf, Sem.run_pure, typeInfo, run_program, hie, hwc, hwl, hnz]
      have er : Array.map (fun _ : Nat => (default : Value)) (Array.range 0) = #[] := by rw [show Array.range 0 = #[] from by simp]; simp
      simp [hwc', hwl', hcond, hcond2, sizeOf, typeInfo, hie, h0, newRow, hr0, er]
    · have hrow' : row = (Array.range (nc * ie.size)).map (fun i => z.cells[i % z.cells.size]!) := by simp [row, hsz]
      simp only [Instr.makeSlice, Sem.run_bind, run_underlying hu, Result.andThen_ok, asInt, asIntOf, Sem.run_pure, typeInfo, run_program, hie, hwc, hwl, hnz]
      simp [hwc', hwl', hcond, hcond2, sizeOf, typeInfo, hie, h0, newRow, zeroValue, hz, hrow']
  · exact .sl (Mp.add_same _ _ _) hle (Nat.le_refl _) (by rw [hrs]; omega) (.inl rfl) (fun _ => rfl)

theorem makeSlice_sound (hT : Fits T P) {H H' : Heap} {w : World} (hr : Rel m H w) (hw : HW H) {t : TypeId} {l c : AV} {l' c' : Value} (hl : VR m l l') (hc : VR m c c') {v : AV} (h : makeSliceA T t l c H = .val v H') :
    Gives P m H w (Instr.makeSlice t l' c') v H' := (makeSlice_makes hT hl hc h).gives hr hw
end
end Go.Ai
