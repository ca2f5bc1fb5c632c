/- Slices that grow; cells that are copied and cleared; conversions. -/
import Derived.Test.YtmbohkdfdolkkaaGreatDoorAiO8
namespace Go.Ai
open Go
section
variable {P : Program} {T : Tab} {m : Mp}

theorem known_not_int {t : TypeId} (h : (kindOf P t).known = true) (hk : ∀ k, kindOf P t ≠ .int k) : ∃ d, P.underlying t = some d ∧ ∀ k, d ≠ .int k := by
  obtain ⟨d, hd⟩ := known_underlying h
  refine ⟨d, hd, fun k e => ?_⟩
  subst e
  exact hk k (by unfold kindOf; rw [hd])

/-- append, whatever is appended: it has n elements, whose cells are 'news'. -/
structure Src9 (P : Program) (w : World) (ts : Array TypeId) (size bytes : Nat) (z : Value) (x' : Value) (n : Nat) (news : List Value) : Prop where
  kind : (∃ tx d, ts[1]? = some tx ∧ P.underlying tx = some d ∧ (∀ k, d ≠ .int k) ∧ Builtin.lenOf x' = Pure.pure n ∧ ∀ w1 : World, w1.heap = w.heap → (Builtin.firstCells size n x').run P w1 = .ok news.toArray w1) ∨
    (∃ tx k q, ts[1]? = some tx ∧ P.underlying tx = some (.int q) ∧ x' = .int k (.ofNat n) ∧ n ≤ 70368744177664 ∧ z.cells.size = size ∧ news = (List.replicate n z.cells.toList).flatten)

theorem zeroCells_eq (z : Value) (n : Nat) (h : z.cells.size ≠ 0) : Builtin.zeroCells z.cells n = (List.replicate n z.cells.toList).flatten.toArray := by
  have := map_range_flatten z.cells.toList n (by intro e; apply h; have := congrArg List.length e; rw [Array.length_toList] at this; exact this)
  apply Array.toList_inj.1
  rw [← this]
  simp [Builtin.zeroCells]

theorem run_append_in {w : World} {ts : Array TypeId} {t ty e : TypeId} {ie : TypeInfo} {z : Value} (ht0 : ts[0]? = some t) (ht : P.underlying t = some (.slice e)) (hi : P.info? e = some ie) (hz : ie.zero = some z) (hs0 : ie.size ≠ 0)
    {base : Option Addr} {sLen sCap n : Nat} {x' : Value} {news : List Value} (hsrc : Src9 P w ts ie.size ie.bytes z x' n news) (hb : n * ie.bytes ≤ 70368744177664) (hn : sLen + n ≤ sCap) :
    (Builtin.append_ ts ty #[.slice base sLen sCap, x']).run P w = match base with
      | some a => ((storeCells (a.add (sLen * ie.size)) news).run P w).andThen fun _ w' => .ok (.slice base (sLen + n) sCap) w'
      | none => .ok (.slice none (sLen + n) sCap) w := by
  rcases hsrc.kind with ⟨tx, d, h1, h2, h3, h4, h5⟩ | ⟨tx, k, q, h1, h2, rfl, h4, h5, rfl⟩
  · have hz : (match d with | .int _ => true | _ => false) = false := by cases d <;> first | rfl | exact absurd rfl (h3 _)
    have h5 := h5 w rfl
    cases base with
    | none => simp [Builtin.append_, ht0, h1, run_underlying ht, run_underlying h2, sizeOf, typeInfo, hi, hz, h4, hn, h5]
    | some a => simp [Builtin.append_, ht0, h1, run_underlying ht, run_underlying h2, sizeOf, typeInfo, hi, hz, h4, hn, h5]
  · have hw : IntKind.i64.wrap (n : Int) = (n : Int) := wrap_ofNat .i64 n (by simp [lim]; omega)
    have hlt : ¬ ((n : Int) * (ie.bytes : Int) > 281474976710656) := by rw [← Int.natCast_mul]; omega
    have hzc := zeroCells_eq z n (by omega)
    have hw0 : IntKind.i64.wrap 0 = 0 := by decide
    have hneg : ¬ ((n : Int) < 0) := by omega
    by_cases h0 : n * ie.size = 0
    · have hn0 : n = 0 := by rcases Nat.mul_eq_zero.1 h0 with h | h <;> omega
      subst hn0
      have hn : sLen ≤ sCap := hn
      cases base with
      | none => simp [Builtin.append_, ht0, h1, run_underlying ht, run_underlying h2, sizeOf, typeInfo, hi, asInt, asIntOf, hw, hw0, hneg, hn]
      | some a => simp [Builtin.append_, ht0, h1, run_underlying ht, run_underlying h2, sizeOf, typeInfo, hi, asInt, asIntOf, hw, hw0, hneg, hn, storeCells]
    · cases base with
      | none => simp [Builtin.append_, ht0, h1, run_underlying ht, run_underlying h2, sizeOf, typeInfo, hi, asInt, asIntOf, hw, hw0, hneg, hlt, hn, h0, zeroValue, hz]
      | some a => simp [Builtin.append_, ht0, h1, run_underlying ht, run_underlying h2, sizeOf, typeInfo, hi, asInt, asIntOf, hw, hw0, hneg, hlt, hn, h0, zeroValue, hz, hzc]

theorem run_append_out {w : World} {ts : Array TypeId} {t ty e : TypeId} {ie : TypeInfo} {z : Value} (ht0 : ts[0]? = some t) (ht : P.underlying t = some (.slice e)) (hi : P.info? e = some ie) (hz : ie.zero = some z) (hs0 : ie.size ≠ 0) (hb0 : ie.bytes ≠ 0)
    {base : Option Addr} {sLen sCap n : Nat} {x' : Value} {olds news : List Value} (hsrc : Src9 P w ts ie.size ie.bytes z x' n news) (hb : (sLen + n) * ie.bytes ≤ 70368744177664) (hn : ¬ sLen + n ≤ sCap)
    (hold : ∀ w1 : World, w1.heap = w.heap → (Builtin.firstCells ie.size sLen (.slice base sLen sCap)).run P w1 = .ok olds.toArray w1) :
    ∃ c, sLen + n ≤ c ∧ (Builtin.append_ ts ty #[.slice base sLen sCap, x']).run P w =
      .ok (.slice (some ⟨w.heap.size, 0, none⟩) (sLen + n) c) (w.drew.alloc (.cells (olds.toArray ++ (news.toArray ++ Builtin.zeroCells z.cells (c - (sLen + n)))) e)) := by
  refine ⟨grownCap w (sLen + n) sCap e, by simp [grownCap, Question.cut], ?_⟩
  have hcut : (Question.appendCap (sLen + n) sCap e).forced = false := rfl
  have hnn : (sLen + n) ≤ (sLen + n) * ie.bytes := Nat.le_mul_of_pos_right _ (by omega)
  have hfit : ¬ (281474976710656 < Builtin.nextslicecap (sLen + n) sCap * ie.bytes) := by
    have := growslice_fits (need := sLen + n) (old := sCap) (bytes := ie.bytes) (by omega) (by omega)
    omega
  have h63 : ¬ ((9223372036854775807 : Int) < (sLen : Int) + (n : Int)) := by omega
  have hold := hold w.drew rfl
  have hmul : n * ie.bytes ≤ (sLen + n) * ie.bytes := Nat.mul_le_mul_right _ (by omega)
  rcases hsrc.kind with ⟨tx, d, h1, h2, h3, h4, h5⟩ | ⟨tx, k, q, h1, h2, rfl, h4, h5, rfl⟩
  · have hzf : (match d with | .int _ => true | _ => false) = false := by cases d <;> first | rfl | exact absurd rfl (h3 _)
    have h5 := h5 w.drew rfl
    simp [Builtin.append_, ht0, h1, run_underlying ht, run_underlying h2, sizeOf, typeInfo, hi, hzf, h4, hn, h5, h63, hfit, hb0, hcut, hold, zeroValue, hz, newRow, grownCap]
  · have hw : IntKind.i64.wrap (n : Int) = (n : Int) := wrap_ofNat .i64 n (by simp [lim]; omega)
    have hlt : ¬ ((n : Int) * (ie.bytes : Int) > 281474976710656) := by rw [← Int.natCast_mul]; omega
    have hzc := zeroCells_eq z n (by omega)
    have hw0 : IntKind.i64.wrap 0 = 0 := by decide
    have hneg : ¬ ((n : Int) < 0) := by omega
    by_cases h0 : n * ie.size = 0
    · have hn0 : n = 0 := by rcases Nat.mul_eq_zero.1 h0 with h | h <;> omega
      subst hn0
      simp only [Nat.add_zero] at *
      have h63b : ¬ ((9223372036854775807 : Int) < (sLen : Int)) := by omega
      simp [Builtin.append_, ht0, h1, run_underlying ht, run_underlying h2, sizeOf, typeInfo, hi, asInt, asIntOf, hw, hw0, hneg, hn, h63, h63b, hfit, hb0, hcut, hold, zeroValue, hz, newRow, grownCap]
    · simp [Builtin.append_, ht0, h1, run_underlying ht, run_underlying h2, sizeOf, typeInfo, hi, asInt, asIntOf, hw, hw0, hneg, hlt, hn, h0, h63, hfit, hb0, hcut, hold, zeroValue, hz, newRow, grownCap, hzc]

theorem cell?_heap {w w1 : World} (h : w1.heap = w.heap) (a : Addr) : w1.cell? a = w.cell? a := by unfold World.cell?; rw [h]

theorem slc_cases {α : Type} {d r : α} {f : List AV → α} {l : List AV} {off n : Nat} (h : slc d f l off n = r) (hr : r ≠ d) : (off + n ≤ l.length ∨ n = 0) ∧ f ((l.drop off).take n) = r := by
  rw [slc_eq] at h
  split at h
  · exact ⟨by assumption, h⟩
  · exact absurd h.symm hr

/-- The cells of the first elements. -/
theorem firstA_sound {α : Type} {d r : α} {f : List AV → α} {H : Heap} {w : World} (hr : Rel m H w) {size n : Nat} {x : AV} {x' : Value} (hx : VR m x x') (h : firstA d f size n x H = r) (hne : r ≠ d) :
    ∃ new news, f new = r ∧ VRs m new news ∧ new.length = n * size ∧ ∀ w1 : World, w1.heap = w.heap → (Builtin.firstCells size n x').run P w1 = .ok news.toArray w1 := by
  unfold firstA at h
  cases hx <;> try (exact absurd h.symm hne)
  case str s =>
    have h : cond (cond (Nat.beq size 1) (Nat.ble n (llen s.data.toList)) false) (f (lmap byteV (ltake n s.data.toList))) d = r := h
    obtain ⟨hc, h5⟩ := cond_cases h hne
    clear h
    obtain ⟨c1, c2⟩ := cond_and hc
    have c1 := Nat.eq_of_beq_eq_true c1
    subst c1
    have h := h5
    clear h5
    rw [ble_iff, llen_eq] at c2
    refine ⟨_, ((s.data.toList.take n).map fun b => Value.int .u8 b.toNat), h, ?_, ?_, fun w1 _ => ?_⟩
    · rw [lmap_eq, ltake_eq]
      induction s.data.toList.take n with
      | nil => exact .nil
      | cons b l ih => exact .cons (.int _ _) ih
    · rw [lmap_eq, ltake_eq, List.length_map, List.length_take]; omega
    · have : (s.extract 0 n).data.toList = s.data.toList.take n := by
        rw [ByteArray.data_extract, Array.toList_extract, List.extract_eq_take_drop]; simp
      simp only [Builtin.firstCells, Sem.run_pure, Result.ok.injEq, and_true]
      apply Array.toList_inj.1
      simp only [Array.toList_map, this]
  case sl0 =>
    have h : cond (Nat.beq n 0) (f []) d = r := h
    obtain ⟨hn, h⟩ := cond_cases h hne
    have hn := Nat.eq_of_beq_eq_true hn
    subst hn
    exact ⟨[], [], h, .nil, by simp, fun w1 _ => by simp [Builtin.firstCells]⟩
  case sl o b N off off' len cap cap' ex es hm hl hc' hN ho hex =>
    have h : cond (cond (Nat.beq es size) (Nat.ble n len) false) (CR.casesOn (motive := fun _ => α) (H.cells? o) d fun cs _ => slc d f cs off (Nat.mul n size)) d = r := h
    obtain ⟨hes, h5⟩ := cond_cases h hne
    clear h
    obtain ⟨hes, hnl⟩ := cond_and hes
    have hes := Nat.eq_of_beq_eq_true hes
    rw [ble_iff] at hnl
    subst hes
    obtain ⟨cs, sh, hcs, h6⟩ := cr_cases h5 hne
    obtain ⟨hle, h7⟩ := slc_cases h6 hne
    have hle : off + n * es ≤ cs.length ∨ n * es = 0 := hle
    obtain ⟨vs, h1, h2⟩ := read_slc hr hm hcs off (n * es)
    have hlen : ((cs.drop off).take (n * es)).length = n * es := by simp; omega
    refine ⟨_, vs, h7, h1, hlen, fun w1 hw1 => ?_⟩
    have hvl : vs.length = n * es := by rw [← h1.length]; exact hlen
    simp only [Builtin.firstCells]
    by_cases h0 : n * es = 0
    · have : vs = [] := List.eq_nil_of_length_eq_zero (by omega)
      subst this
      rw [h0]; rfl
    · have hoff : off' = off := by
        rcases ho with h | h
        · exact h
        · exfalso; apply h0
          have : n = 0 := by omega
          rw [this]; simp
      subst hoff
      have := run_loadCells_list (P := P) w1 ⟨b, off', none⟩ vs (fun j v hj => by rw [cell?_heap hw1]; exact h2 j v hj)
      rw [hvl] at this; exact this

theorem fits_prefix {cs : List AV} {vs rest : List Value} {e : TypeId} {sh : Option (Nat × Nat)} (h : VRs m cs vs) : Fits1 m (vs ++ rest).toArray.size (.cells (vs ++ rest).toArray e) (.cells cs sh) :=
  ⟨_, e, (0, 0), rfl, rfl, fun i _ hi => by simp at hi, by rw [h.length]; simp, fun i a hi => by
    obtain ⟨v, h1, h2⟩ := h.get hi
    refine ⟨v, ?_, h2⟩
    have hlt := (List.getElem?_eq_some_iff.1 h1).1
    rw [List.getElem?_toArray, List.getElem?_append_left hlt]; exact h1⟩

theorem drew_pushed (w : World) (o : Obj) : Pushed w (w.drew.alloc o) o := ⟨rfl, rfl, rfl, rfl⟩

theorem appendTo_sound {H H' : Heap} {w : World} (hr : Rel m H w) (hw : HW H) {ts : Array TypeId} {t ty e : TypeId} {ie : TypeInfo} {z : Value} (ht0 : ts[0]? = some t) (ht : P.underlying t = some (.slice e)) (hi : P.info? e = some ie)
    (hz : ie.zero = some z) (hs0 : ie.size ≠ 0) (hb0 : ie.bytes ≠ 0) (hzs : z.cells.size = ie.size) {n : Nat} {x' : Value} {new : List AV} {news : List Value} (hsrc : Src9 P w ts ie.size ie.bytes z x' n news) (hnew : VRs m new news)
    (hone : ∀ v ∈ news, v.oneCell' = true) (hnl : new.length = n * ie.size) {s : AV} {s' : Value} (hs : VR m s s') {v : AV} (h : appendTo ie.size ie.bytes n new s H = .val v H') :
    Gives P m H w (Builtin.append_ ts ty #[s', x']) v H' := by
  unfold appendTo at h
  have hnl' : news.length = n * ie.size := by rw [← hnew.length]; exact hnl
  have hzc : ∀ k, (Builtin.zeroCells z.cells k).size = k * ie.size := by intro k; simp [Builtin.zeroCells, hzs]
  cases hs <;> try (cases h; done)
  case sl0 =>
    have h : cond (Nat.beq n 0) (OR.val .sl0 H) (cond (Nat.ble (Nat.mul n ie.bytes) most) (.val (.sl H.next 0 n n false ie.size) (H.newRow new)) .fail) = .val v H' := h
    cases hn : Nat.beq n 0 with
    | true =>
      rw [hn] at h; cases h
      have hn := Nat.eq_of_beq_eq_true hn
      subst hn
      refine ⟨.slice none 0 0, w, m, ?_, .sl0, .refl hr hw⟩
      have := run_append_in (P := P) (ty := ty) ht0 ht hi hz hs0 (base := none) (sLen := 0) (sCap := 0) hsrc (by simp) (by simp)
      simpa using this
    | false =>
      rw [hn] at h
      have hn := beqf_iff.1 hn
      obtain ⟨hle, h⟩ := cond_cases (d := OR.fail) h (by simp)
      cases h
      rw [ble_iff] at hle
      have hle : n * ie.bytes ≤ 70368744177664 := hle
      obtain ⟨c, hc, hrun⟩ := run_append_out (P := P) (ty := ty) ht0 ht hi hz hs0 hb0 (base := none) (sLen := 0) (sCap := 0) (olds := []) hsrc (by simpa using hle) (by omega) (fun w1 _ => by simp [Builtin.firstCells])
      simp only [Nat.zero_add] at hc hrun
      refine ⟨_, _, m.add H.next (w.heap.size, (news ++ (Builtin.zeroCells z.cells (c - n)).toList).toArray.size), hrun, ?_, Step.newRow hr hw (fits_prefix (e := e) (rest := (Builtin.zeroCells z.cells (c - n)).toList) hnew) ?_⟩
      · refine .sl (Mp.add_same _ _ _) hc hc ?_ (.inl rfl) (by simp)
        simp only [List.size_toArray, List.length_append, Array.length_toList, hnl', hzc]
        rw [← Nat.add_mul, Nat.zero_add]; exact Nat.le_of_eq (by congr 1; omega)
      · have : (([] : List Value).toArray ++ (news.toArray ++ Builtin.zeroCells z.cells (c - n))) = (news ++ (Builtin.zeroCells z.cells (c - n)).toList).toArray := by
          apply Array.toList_inj.1; simp
        rw [this]; exact drew_pushed _ _
  case sl o b N off off' len cap cap' ex es hm hl hc' hN ho hex =>
    have h : cond (cond (Nat.beq ie.size es) (Nat.ble (Nat.mul (Nat.add len n) ie.bytes) most) false)
      (cond (Nat.beq n 0) (OR.val (.sl o off len cap ex ie.size) H)
        (CR.casesOn (motive := fun _ => OR) (H.cells? o) .fail fun cs sh =>
          cond (Nat.ble (Nat.add len n) cap)
            (wr .fail sh (cond (Nat.ble (Nat.add off (Nat.mul (Nat.add len n) ie.size)) (llen cs)) (.val (.sl o off (Nat.add len n) cap ex ie.size) (H.write o sh (lput cs (Nat.add off (Nat.mul len ie.size)) new))) .fail))
            (slc .fail (fun old => cond ex
                (.val (.sl H.next 0 (Nat.add len n) (Nat.add len n) false ie.size) (H.newRow (lapp old new)))
                (Option.casesOn (motive := fun _ => OR) sh .fail fun p => wr .fail (some p) (cond (Nat.beq off 0)
                  (.val (.sl H.next 0 (Nat.add len n) (Nat.add len n) false ie.size)
                    (H.fork (lapp old new) p.1 (cond (Nat.ble (H.clsOf p.1).2 (llen old)) p.2 (Nat.succ p.2)))) .fail)))
              cs off (Nat.mul len ie.size)))) .fail = .val v H' := h
    obtain ⟨hc1, h5⟩ := cond_cases h (by simp)
    clear h
    obtain ⟨hes, hle⟩ := cond_and hc1
    have hes := Nat.eq_of_beq_eq_true hes
    subst hes
    rw [ble_iff] at hle
    have hle : (len + n) * ie.bytes ≤ 70368744177664 := hle
    have hnb : n * ie.bytes ≤ 70368744177664 := Nat.le_trans (Nat.mul_le_mul_right _ (by omega)) hle
    cases hn : Nat.beq n 0 with
    | true =>
      rw [hn] at h5; cases h5
      have hn := Nat.eq_of_beq_eq_true hn
      subst hn
      have hnews : news = [] := List.eq_nil_of_length_eq_zero (by rw [hnl']; simp)
      subst hnews
      refine ⟨.slice (some ⟨b, off', none⟩) len cap', w, m, ?_, .sl hm hl hc' hN ho hex, .refl hr hw⟩
      have := run_append_in (P := P) (ty := ty) ht0 ht hi hz hs0 (base := some ⟨b, off', none⟩) (sLen := len) (sCap := cap') hsrc (by simp) (by simpa using hl)
      simpa [storeCells] using this
    | false =>
      rw [hn] at h5
      have hn := beqf_iff.1 hn
      obtain ⟨cs, sh, hcs, h6⟩ := cr_cases (d := OR.fail) h5 (by simp)
      clear h5
      cases hcap : Nat.ble (Nat.add len n) cap with
      | true =>
        rw [hcap] at h6
        rw [ble_iff] at hcap
        have hcap : len + n ≤ cap := hcap
        obtain ⟨hro, h6⟩ := wr_cases (d := OR.fail) h6 (by simp)
        obtain ⟨hlen, h7⟩ := cond_cases (d := OR.fail) h6 (by simp)
        cases h7
        rw [ble_iff, llen_eq] at hlen
        have hlen : off + (len + n) * ie.size ≤ cs.length := hlen
        have hoff : off' = off := by rcases ho with h | h; · exact h
                                     · omega
        subst hoff
        have hmul : (len + n) * ie.size = len * ie.size + n * ie.size := Nat.add_mul _ _ _
        obtain ⟨w', hst, hstep⟩ := store_into (P := P) hr hw hm hcs hro hnew hone (off := off' + len * ie.size) (by omega)
        refine ⟨.slice (some ⟨b, off', none⟩) (len + n) cap', w', m, ?_, .sl hm (by omega) hc' hN (.inl rfl) hex, hstep⟩
        have := run_append_in (P := P) (ty := ty) ht0 ht hi hz hs0 (base := some ⟨b, off', none⟩) (sLen := len) (sCap := cap') hsrc hnb (by omega)
        rw [this]
        simp only [addr_add, hst, Result.andThen_ok]
      | false =>
        rw [hcap] at h6
        have hcap : ¬ (len + n ≤ cap) := fun e => by rw [ble_iff.2 (show Nat.add len n ≤ cap from e)] at hcap; cases hcap
        have h6 : slc .fail (fun old => cond ex
                (.val (.sl H.next 0 (Nat.add len n) (Nat.add len n) false ie.size) (H.newRow (lapp old new)))
                (Option.casesOn (motive := fun _ => OR) sh .fail fun p => wr .fail (some p) (cond (Nat.beq off 0)
                  (.val (.sl H.next 0 (Nat.add len n) (Nat.add len n) false ie.size)
                    (H.fork (lapp old new) p.1 (cond (Nat.ble (H.clsOf p.1).2 (llen old)) p.2 (Nat.succ p.2)))) .fail)))
              cs off (Nat.mul len ie.size) = OR.val v H' := h6
        obtain ⟨hol, h7⟩ := slc_cases (d := OR.fail) (r := OR.val v H') (l := cs) (off := off) (n := len * ie.size) h6 (by simp)
        clear h6
        have hol : off + len * ie.size ≤ cs.length ∨ len * ie.size = 0 := hol
        obtain ⟨vs, hv1, hv2⟩ := read_slc hr hm hcs off (len * ie.size)
        have holen : ((cs.drop off).take (len * ie.size)).length = len * ie.size := by simp; omega
        have hvl : vs.length = len * ie.size := by rw [← hv1.length]; exact holen
        generalize hold : (cs.drop off).take (len * ie.size) = old at hv1 holen h7
        have h7 : cond ex (OR.val (.sl H.next 0 (Nat.add len n) (Nat.add len n) false ie.size) (H.newRow (lapp old new)))
                (Option.casesOn (motive := fun _ => OR) sh .fail fun p => wr .fail (some p) (cond (Nat.beq off 0)
                  (.val (.sl H.next 0 (Nat.add len n) (Nat.add len n) false ie.size)
                    (H.fork (lapp old new) p.1 (cond (Nat.ble (H.clsOf p.1).2 (llen old)) p.2 (Nat.succ p.2)))) .fail)) = .val v H' := by rw [← hold] at h7 ⊢; exact h7
        have hrunold : ∀ w1 : World, w1.heap = w.heap → (Builtin.firstCells ie.size len (.slice (some ⟨b, off', none⟩) len cap')).run P w1 = .ok vs.toArray w1 := by
          intro w1 hw1
          simp only [Builtin.firstCells]
          by_cases h0 : len * ie.size = 0
          · have : vs = [] := List.eq_nil_of_length_eq_zero (by omega)
            subst this
            rw [h0]; rfl
          · have hoff : off' = off := by
              rcases ho with h | h
              · exact h
              · exfalso; apply h0
                have : len = 0 := by omega
                rw [this]; simp
            subst hoff
            have := run_loadCells_list (P := P) w1 ⟨b, off', none⟩ vs (fun j v hj => by rw [cell?_heap hw1]; exact hv2 j v hj)
            rw [hvl] at this; exact this
        have hvr : VRs m (old ++ new) (vs ++ news) := hv1.append hnew
        have hmul : (len + n) * ie.size = len * ie.size + n * ie.size := Nat.add_mul _ _ _
        have harr : ∀ c, (vs.toArray ++ (news.toArray ++ Builtin.zeroCells z.cells c)) = ((vs ++ news) ++ (Builtin.zeroCells z.cells c).toList).toArray := by
          intro c; apply Array.toList_inj.1; simp
        have hsize : ∀ c, len + n ≤ c → 0 + c * ie.size ≤ ((vs ++ news) ++ (Builtin.zeroCells z.cells (c - (len + n))).toList).toArray.size := by
          intro c hc
          simp only [List.size_toArray, List.length_append, Array.length_toList, hnl', hvl, hzc]
          rw [← hmul, ← Nat.add_mul, Nat.zero_add]; exact Nat.le_of_eq (by congr 1; omega)
        cases hex' : ex with
        | true =>
          rw [hex'] at h7
          have h7 : OR.val (.sl H.next 0 (len + n) (len + n) false ie.size) (H.newRow (lapp old new)) = .val v H' := h7
          cases h7
          have hcc := hex hex'
          obtain ⟨c, hc, hrun⟩ := run_append_out (P := P) (ty := ty) ht0 ht hi hz hs0 hb0 (base := some ⟨b, off', none⟩) (sLen := len) (sCap := cap') (olds := vs) hsrc hle (by omega) hrunold
          rw [harr] at hrun
          rw [lapp_eq]
          exact ⟨_, _, _, hrun, .sl (Mp.add_same _ _ _) hc hc (hsize c hc) (.inl rfl) (by simp), Step.newRow hr hw (fits_prefix hvr) (drew_pushed _ _)⟩
        | false =>
          rw [hex'] at h7
          obtain ⟨p, hp, h8⟩ := opt_cases (d := OR.fail) h7 (by simp)
          obtain ⟨hro, h8⟩ := wr_cases (d := OR.fail) h8 (by simp)
          obtain ⟨h0, h9⟩ := cond_cases (d := OR.fail) h8 (by simp)
          have h0 := Nat.eq_of_beq_eq_true h0
          cases h9
          obtain ⟨c0, s0⟩ := p
          subst hp
          have hst : (cond (Nat.ble (H.clsOf c0).2 (llen old)) s0 (Nat.succ s0)) = if (H.clsOf c0).2 ≤ old.length then s0 else s0 + 1 := by
            rw [llen_eq, ble_dec]
            by_cases hq : (H.clsOf c0).2 ≤ old.length
            · rw [decide_eq_true hq, if_pos hq]; rfl
            · rw [decide_eq_false hq, if_neg hq]; rfl
          simp only [hst, lapp_eq]
          by_cases hin : len + n ≤ cap'
          · have hoff : off' = off := by rcases ho with h | h; · exact h
                                         · omega
            subst hoff
            subst h0
            obtain ⟨k, ke, kfz, hkb, hkN, hkf⟩ := hr.cells o b N cs _ hm (cells?_some.1 hcs).1
            have hcapN : (len + n) * ie.size ≤ N := Nat.le_trans (Nat.mul_le_mul_right _ hin) (by omega)
            obtain ⟨w', hst2, hon⟩ := run_storeCells (P := P) b ke kfz (0 + len * ie.size) news 0 k w hkb (by rw [hnl', hkN]; omega) (by rw [hkN]; exact hkf hro) hone
            simp only [Nat.zero_add, Nat.add_zero] at hst2 hon
            refine ⟨.slice (some ⟨b, 0, none⟩) (len + n) cap', w', m.add H.next (b, N), ?_, .sl (Mp.add_same _ _ _) hin hin (by omega) (.inl rfl) (by simp), ?_⟩
            · have := run_append_in (P := P) (ty := ty) ht0 ht hi hz hs0 (base := some ⟨b, 0, none⟩) (sLen := len) (sCap := cap') hsrc hnb hin
              rw [this]
              simp only [addr_add, Nat.zero_add, hst2, Result.andThen_ok]
            · refine Step.forkHere hr hw hm hcs hro (by simp) hkb (by simp [lput_length]) (by simp only [List.length_append, holen, hnl]; omega) ?_ ?_ hon
              · intro i hi2
                rw [holen] at hi2
                simp only [List.getElem?_toArray, lput_getElem?]
                rw [if_neg (by omega), Array.getElem?_toList]
              · intro i a hi2
                simp only [List.getElem?_toArray, lput_getElem?, Array.length_toList]
                rw [List.getElem?_append, holen] at hi2
                split at hi2
                · rename_i hlt
                  rw [if_neg (by omega)]
                  obtain ⟨v, h1, h2⟩ := hv1.get hi2
                  have := hv2 i v h1
                  rw [addr_add, Nat.zero_add, cell?_of hkb] at this
                  exact ⟨v, by rw [Array.getElem?_toList]; exact this, h2⟩
                · rename_i hlt
                  have hlt2 := (List.getElem?_eq_some_iff.1 hi2).1
                  rw [hnl] at hlt2
                  rw [if_pos (by rw [hnl', hkN]; omega)]
                  exact hnew.get hi2
          · obtain ⟨c, hc, hrun⟩ := run_append_out (P := P) (ty := ty) ht0 ht hi hz hs0 hb0 (base := some ⟨b, off', none⟩) (sLen := len) (sCap := cap') (olds := vs) hsrc hle hin hrunold
            rw [harr] at hrun
            exact ⟨_, _, _, hrun, .sl (Mp.add_same _ _ _) hc hc (hsize c hc) (.inl rfl) (by simp), Step.forkNew hr hw hm hcs hro (by simp) (fun p => fits_prefix hvr) (drew_pushed _ _)⟩
end
end Go.Ai
