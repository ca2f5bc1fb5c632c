/- Sorted keys: the summary of slices.Sorted over a map's keys. -/
import Derived.Test.YtmbohkdfdolkkaaGreatDoorAiF1
import Derived.Sort.KeysCollected
import Derived.Below
import Derived.Laws.AppendOwn
namespace Go.Ai
open Go Go.RowKit

/-- It is made, at some new place. -/
theorem Step.thenMade {m₀ m : Mp} {H₀ H : Heap} {w₀ w w' : World} (h : Step m₀ H₀ w₀ m H w) {o b0 N : Nat} {B : Obj} (h1 : H₀.next ≤ o) (h2 : o < H.next) (h3 : m o = none) (hb0 : w.heap.size ≤ b0) (hp : Below w.heap.size w w') (hB : w'.heap[b0]? = some B)
    (hX : Fits1 m N B (H.obj o)) (hsh : ∀ cs c s, H.obj o = .cells cs (some (c, s)) → c = o ∧ cs.length ≤ (H.clsOf c).2) : Step m₀ H₀ w₀ (m.add o (b0, N)) H w' := by
  have hr := h.rel
  have hlt : b0 < w'.heap.size := (Array.getElem?_eq_some_iff.1 hB).1
  have hsz := hp.size
  have hcell : ∀ k, k < w.heap.size → ∀ i, w'.cell? ⟨k, i, none⟩ = w.cell? ⟨k, i, none⟩ := by
    intro k hk i; simp [World.cell?, hp.block k hk]
  have hle : m.le (m.add o (b0, N)) := Mp.le_add _ h3
  have old : ∀ j p, j ≠ o → m.add o (b0, N) j = some p → m j = some p := by
    intro j p hj e; rw [Mp.add_other m _ hj] at e; exact e
  refine ⟨⟨?_, ?_, ?_, ?_, ?_, ?_, ?_, ?_⟩, h.wf, Mp.le_trans h.le hle, ?_, ?_, by have := h.size; omega, h.next, hp.os.trans h.os, hp.tape.trans h.tape, hp.output.trans h.output,
    ⟨h.keep.obj, fun c hc hl => ⟨(h.keep.cls c hc hl).1, fun j p cs s hj hh => ?_⟩⟩, fun j b M cs sh hj hc hs => ⟨(h.ro j b M cs sh hj hc hs).1, (hp.block b (hr.blk j b M (h.le _ _ hj))).trans (h.ro j b M cs sh hj hc hs).2⟩⟩
  · intro j p hj
    by_cases e : j = o
    · omega
    · exact hr.dom j p (old j p e hj)
  · intro j b M hj
    by_cases e : j = o
    · subst e; rw [Mp.add_same] at hj; cases hj; omega
    · have := hr.blk j b M (old j _ e hj); omega
  · intro j b M cs sh hj ho
    by_cases e : j = o
    · subst e; rw [Mp.add_same] at hj; cases hj
      rw [ho] at hX
      obtain ⟨c, e, fz, rfl, hN, hf, _, _⟩ := hX
      exact ⟨c, e, fz, hB, hN, fun _ => hf⟩
    · have hj0 := old j _ e hj
      obtain ⟨c, e2, fz, g1, g2, g3⟩ := hr.cells j b M cs sh hj0 ho
      exact ⟨c, e2, fz, by rw [hp.block b (hr.blk j b M hj0)]; exact g1, g2, g3⟩
  · intro j b M cs sh hj ho
    by_cases e : j = o
    · subst e; rw [Mp.add_same] at hj; cases hj
      rw [(cells?_some.1 ho).1] at hX
      obtain ⟨c, e, fz, rfl, hN, hf, hl, hv⟩ := hX
      refine ⟨hl, fun i a hi => ?_⟩
      obtain ⟨v, g1, g2⟩ := hv i a hi
      exact ⟨v, by rw [cell?_of hB]; exact g1, g2.mono hle⟩
    · have hj0 := old j _ e hj
      obtain ⟨g1, g2⟩ := hr.sure j b M cs sh hj0 ho
      refine ⟨g1, fun i a hi => ?_⟩
      obtain ⟨v, k1, k2⟩ := g2 i a hi
      exact ⟨v, by rw [hcell b (hr.blk j b M hj0)]; exact k1, k2.mono hle⟩
  · intro j p cs c s hj ho
    by_cases e : j = o
    · subst e; exact (hsh cs c s (cells?_some.1 ho).1).2
    · exact hr.ext j p cs c s (old j _ e hj) ho
  · intro j j' b M M' cs sh cs' sh' hj hj' hne ho ho'
    by_cases e : j = o
    · subst e; rw [Mp.add_same] at hj; cases hj
      have := hr.blk j' _ M' (old j' _ (Ne.symm hne) hj')
      omega
    · by_cases e' : j' = o
      · subst e'; rw [Mp.add_same] at hj'; cases hj'
        have := hr.blk j _ M (old j _ e hj)
        omega
      · exact hr.sep j j' b M M' cs sh cs' sh' (old j _ e hj) (old j' _ e' hj') hne ho ho'
  · intro j b M es hj ho
    by_cases e : j = o
    · subst e; rw [Mp.add_same] at hj; cases hj
      rw [ho] at hX
      obtain ⟨l, clk, rfl, hh, hst⟩ := hX
      exact ⟨l, clk, hB, hh.mono hle, hst⟩
    · have hj0 := old j _ e hj
      obtain ⟨l, clk, g1, g2, g3⟩ := hr.map j b M es hj0 ho
      exact ⟨l, clk, by rw [hp.block b (hr.blk j b M hj0)]; exact g1, g2.mono hle, g3⟩
  · intro j j' b M M' es es' hj hj' ho ho'
    by_cases e : j = o
    · subst e; rw [Mp.add_same] at hj; cases hj
      by_cases e' : j' = j
      · exact e'.symm
      · have := hr.blk j' _ M' (old j' _ e' hj'); omega
    · by_cases e' : j' = o
      · subst e'; rw [Mp.add_same] at hj'; cases hj'
        have := hr.blk j _ M (old j _ e hj); omega
      · exact hr.mapsep j j' b M M' es es' (old j _ e hj) (old j' _ e' hj') ho ho'
  · intro j b M hj
    by_cases e : j = o
    · subst e; rw [Mp.add_same] at hj; cases hj; exact .inr ⟨h1, .inl (by have := h.size; omega)⟩
    · exact h.fresh j b M (old j _ e hj)
  · intro b hb hm
    have := h.size
    rw [hp.block b (by omega)]; exact h.frame b hb hm
  · by_cases e : j = o
    · subst e
      have := (hsh cs c s hh).1
      omega
    · exact (h.keep.cls c hc hl).2 j p cs s (old j p e hj) hh


theorem Step.below {m : Mp} {H : Heap} {w w' : World} (hr : Rel m H w) (hw : HW H) (h : Below w.heap.size w w') : Step m H w m H w' :=
  ⟨hr.blocks h.block h.size, hw, m.le_refl, fun _ _ _ h => .inl h, fun b hb _ => h.block b hb, h.size, Nat.le_refl _, h.os, h.tape, h.output, ⟨fun _ _ _ => rfl, fun _ _ h => ⟨rfl, h⟩⟩, fun o b N cs sh hm hc _ => ⟨hc, h.block b (hr.blk o b N hm)⟩⟩

/-- Texts by their bytes. -/
noncomputable def llt (x : List UInt8) : List UInt8 → Bool :=
  List.rec (fun y => List.casesOn y false fun _ _ => true) (fun a _ ih y => List.casesOn y false fun b y => cond (Nat.blt a.toNat b.toNat) true (cond (Nat.beq a.toNat b.toNat) (ih y) false)) x
theorem llt_iff : ∀ (x y : List UInt8), llt x y = true ↔ x < y
  | [], [] => ⟨fun h => (by cases h), fun h => absurd h (List.not_lt_nil _)⟩
  | [], _ :: _ => ⟨fun _ => List.nil_lt_cons _ _, fun _ => rfl⟩
  | _ :: _, [] => ⟨fun h => (by cases h), fun h => absurd h (List.not_lt_nil _)⟩
  | a :: x, b :: y => by
    rw [List.cons_lt_cons_iff, ← llt_iff x y]
    show cond (Nat.blt a.toNat b.toNat) true (cond (Nat.beq a.toNat b.toNat) (llt x y) false) = true ↔ _
    rw [blt_dec]
    by_cases h1 : a.toNat < b.toNat
    · rw [decide_eq_true h1]; exact ⟨fun _ => .inl (UInt8.lt_iff_toNat_lt.2 h1), fun _ => rfl⟩
    · rw [decide_eq_false h1]
      have hn : ¬ a < b := fun q => h1 (UInt8.lt_iff_toNat_lt.1 q)
      by_cases h2 : a.toNat = b.toNat
      · have he : a = b := UInt8.toNat_inj.1 h2
        rw [beq_t h2]; exact ⟨fun q => .inr ⟨he, q⟩, fun q => q.elim (fun q => absurd q hn) fun q => q.2⟩
      · have he : a ≠ b := fun q => h2 (by rw [q])
        rw [beq_f h2]; exact ⟨fun q => (by cases q), fun q => q.elim (fun q => absurd q hn) fun q => absurd q.1 he⟩

noncomputable def insL (k : List UInt8) (l : List (List UInt8)) : List (List UInt8) := List.rec [k] (fun a l ih => cond (llt k a) (k :: a :: l) (a :: ih)) l
noncomputable def sortL (l : List (List UInt8)) : List (List UInt8) := List.rec [] (fun a _ ih => insL a ih) l

theorem insL_perm (k : List UInt8) : ∀ l, (insL k l).Perm (k :: l)
  | [] => List.Perm.refl _
  | a :: l => by
    show (cond (llt k a) (k :: a :: l) (a :: insL k l)).Perm _
    cases llt k a with
    | true => exact List.Perm.refl _
    | false => exact ((insL_perm k l).cons a).trans (List.Perm.swap k a l)
theorem sortL_perm : ∀ l, (sortL l).Perm l
  | [] => List.Perm.refl _
  | a :: l => (insL_perm a (sortL l)).trans ((sortL_perm l).cons a)
theorem insL_sorted (k : List UInt8) : ∀ l, l.Pairwise (fun a b => leB a b = true) → (insL k l).Pairwise (fun a b => leB a b = true)
  | [], _ => List.pairwise_singleton _ _
  | a :: l, h => by
    rw [List.pairwise_cons] at h
    show (cond (llt k a) (k :: a :: l) (a :: insL k l)).Pairwise _
    cases hk : llt k a with
    | true =>
      have h1 : k < a := (llt_iff k a).1 hk
      refine List.pairwise_cons.2 ⟨fun b hb => ?_, List.pairwise_cons.2 h⟩
      rcases List.mem_cons.1 hb with rfl | hb
      · exact decide_eq_true (List.le_of_lt h1)
      · exact decide_eq_true (List.le_trans (List.le_of_lt h1) (of_decide_eq_true (h.1 b hb)))
    | false =>
      have h1 : ¬ k < a := fun q => by rw [(llt_iff k a).2 q] at hk; cases hk
      refine List.pairwise_cons.2 ⟨fun b hb => ?_, insL_sorted k l h.2⟩
      rcases List.mem_cons.1 ((insL_perm k l).mem_iff.1 hb) with rfl | hb
      · exact decide_eq_true (List.not_lt.1 h1)
      · exact h.1 b hb
theorem sortL_sorted : ∀ l, (sortL l).Pairwise (fun a b => leB a b = true)
  | [] => List.Pairwise.nil
  | a :: l => insL_sorted a _ (sortL_sorted l)
theorem sortL_eq {l l' : List (List UInt8)} (h : l'.Perm l) : sortL l = l'.mergeSort leB := by
  have tr : ∀ a b c : List UInt8, leB a b = true → leB b c = true → leB a c = true := fun a b c h1 h2 => by simp only [leB, decide_eq_true_eq] at *; exact List.le_trans h1 h2
  have to : ∀ a b : List UInt8, (leB a b || leB b a) = true := fun a b => by simp only [leB, Bool.or_eq_true, decide_eq_true_eq]; exact List.le_total a b
  refine List.Perm.eq_of_pairwise (le := fun a b => leB a b = true) (fun a b _ _ h1 h2 => ?_) (sortL_sorted l) (List.pairwise_mergeSort tr to l') ((sortL_perm l).trans (h.symm.trans (List.mergeSort_perm l' leB).symm))
  simp only [leB, decide_eq_true_eq] at h1 h2
  exact List.le_antisymm h1 h2

/-- A map's keys, if they are texts. -/
noncomputable def strKeysA (es : List (AV × AV)) : Option (List (List UInt8)) :=
  List.rec (some []) (fun e _ ih => e.1.onStr none fun s => cond (Nat.ble (llen s) most) (Option.casesOn ih none fun l => some (s :: l)) none) es
theorem strKeysA_sound {m : Mp} : ∀ {es : List (AV × AV)} {l : List MapEntry} {ks : List (List UInt8)}, ERs m es l → strKeysA es = some ks → l.map (·.key) = ks.map Proofs.encStr ∧ ∀ s ∈ ks, s.length ≤ most
  | [], _, _, .nil, h => by cases h; exact ⟨rfl, fun _ h => (by cases h)⟩
  | (k, v) :: es, _, ks, .cons (e := e) (l := l) hk _ t, h => by
    have h : k.onStr none (fun s => cond (Nat.ble (llen s) most) (Option.casesOn (motive := fun _ => Option (List (List UInt8))) (strKeysA es) none fun l => some (s :: l)) none) = some ks := h
    obtain ⟨s, rfl, h1⟩ := onStr_cases h (by simp)
    obtain ⟨hl, h2⟩ := cond_cases h1 (by simp)
    obtain ⟨l', h3, h4⟩ := opt_cases h2 (by simp)
    cases h4
    obtain ⟨g1, g2⟩ := strKeysA_sound t h3
    rw [ble_iff, llen_eq] at hl
    generalize hkk : e.key = ek at hk
    cases hk with
    | str s =>
      refine ⟨by simp [g1, hkk, Proofs.encStr], fun x hx => ?_⟩
      rcases List.mem_cons.1 hx with rfl | hx
      · exact hl
      · exact g2 x hx

/-- slices.Sorted of what maps.Keys gave. -/
noncomputable def sortedS (g : Nat) (args : List AV) (H : Heap) : SR :=
  args1 .fail (fun x => onFn .fail (fun f a b => cond (cond (Nat.beq f g) (Nat.beq (llen a) 0) false)
    (args1 .fail (fun c => c.onPtr .fail fun o off => cond (Nat.beq off 0)
      (CR.casesOn (H.cells? o) .fail fun cs _ => (lnth .bad cs 0).onMap .fail fun om => Option.casesOn (H.map? om) .fail fun es => Option.casesOn (strKeysA es) .fail fun ks =>
        cond (Nat.ble (llen ks) 1000000) (cond (Nat.beq (llen ks) 0) (.ok .sl0 H) (.ok (.sl H.next 0 (llen ks) (llen ks) false 1) (H.newRow (lmap AV.str (sortL ks))))) .fail) .fail) b) .fail) x) args

/-- What the library's contract must give. -/
def SortedOk (P : Program) (fS g : FuncId) : Prop :=
  ∀ (w : World) (Bm b : Nat) (l : Array MapEntry) (clk : Nat) (ks : List (List UInt8)), Bm < w.heap.size → w.cell? ⟨Bm, 0, none⟩ = some (.map (some b)) → w.heap[b]? = some (.map l clk) → MapKept.Stamped l clk →
    l.toList.map (·.key) = ks.map Proofs.encStr → (∀ s ∈ ks, s.length ≤ most) → ks.length ≤ 1000000 →
    Calls P fS #[.func (.func g) #[] #[.pointer (some ⟨Bm, 0, none⟩)]] w fun e w' => ∃ (v : Value) (ss : List (List UInt8)) (K : TypeId), e = .returned v ∧ ss.Perm ks ∧
      w'.ownsRow w.heap.size K 1 v ss.length ((ss.mergeSort leB).map Proofs.encStr) ∧ (v = .slice none 0 0 ↔ ss = []) ∧ Below w.heap.size w w'

theorem str_VRs {m : Mp} : ∀ l : List (List UInt8), VRs m (lmap AV.str l) (l.map Proofs.encStr)
  | [] => .nil
  | s :: l => .cons (by have := VR.str (m := m) ⟨s.toArray⟩; simpa [Proofs.encStr] using this) (str_VRs l)

theorem sortedS_sound {P : Program} {fS g : FuncId} (hC : SortedOk P fS g) {args : List AV} {H H' : Heap} {v : AV} (h : sortedS g args H = .ok v H') {m : Mp} {w : World} {args' : Array Value} (hr : Rel m H w) (hw : HW H) (ha : VRs m args args'.toList) :
    Calls P fS args' w (Post m H w v H') := by
  unfold sortedS at h
  obtain ⟨x, rfl, h1⟩ := args1_cases (d := SR.fail) h (by simp)
  obtain ⟨f, a, b, rfl, h2⟩ := onFn_cases h1 (by simp)
  obtain ⟨hc, h3⟩ := cond_cases h2 (by simp)
  obtain ⟨hf, ha0⟩ := cond_and hc
  have hf := Nat.eq_of_beq_eq_true hf
  have ha0 := Nat.eq_of_beq_eq_true ha0
  rw [llen_eq] at ha0
  have ha0 : a = [] := List.eq_nil_of_length_eq_zero ha0
  subst hf
  subst ha0
  obtain ⟨c, rfl, h4⟩ := args1_cases (d := SR.fail) h3 (by simp)
  obtain ⟨o, off, rfl, h5⟩ := onPtr_cases h4 (by simp)
  obtain ⟨hoff, h6⟩ := cond_cases h5 (by simp)
  have hoff := Nat.eq_of_beq_eq_true hoff
  subst hoff
  obtain ⟨cs, sh, hcs, h7⟩ := cr_cases (d := SR.fail) h6 (by simp)
  have h7 : (lnth .bad cs 0).onMap SR.fail (fun om => Option.casesOn (motive := fun _ => SR) (H.map? om) .fail fun es => Option.casesOn (motive := fun _ => SR) (strKeysA es) .fail fun ks =>
        cond (Nat.ble (llen ks) 1000000) (cond (Nat.beq (llen ks) 0) (.ok .sl0 H) (.ok (.sl H.next 0 (llen ks) (llen ks) false 1) (H.newRow (lmap AV.str (sortL ks))))) .fail) = .ok v H' := h7
  obtain ⟨om, hom, h8⟩ : ∃ om, lnth .bad cs 0 = .map om ∧ (Option.casesOn (motive := fun _ => SR) (H.map? om) .fail fun es => Option.casesOn (motive := fun _ => SR) (strKeysA es) .fail fun ks =>
        cond (Nat.ble (llen ks) 1000000) (cond (Nat.beq (llen ks) 0) (.ok .sl0 H) (.ok (.sl H.next 0 (llen ks) (llen ks) false 1) (H.newRow (lmap AV.str (sortL ks))))) .fail) = .ok v H' := by
    cases hq : lnth .bad cs 0 <;> rw [hq] at h7 <;> first | exact ⟨_, rfl, h7⟩ | cases h7
  obtain ⟨es, hes, h9⟩ := opt_cases h8 (by simp)
  obtain ⟨ks, hks, h10⟩ := opt_cases h9 (by simp)
  obtain ⟨hlen, h11⟩ := cond_cases h10 (by simp)
  obtain ⟨x', rfl, hx⟩ := vrs_one ha
  cases hx with
  | fn _ hfa hfb =>
    rename_i a' b'
    obtain ⟨la⟩ := a'
    have hla : la = [] := by cases hfa; rfl
    subst hla
    obtain ⟨c', rfl, hc'⟩ := vrs_one hfb
    cases hc' with
    | ptr _ hm =>
      rename_i Bm N
      obtain ⟨hle, hsure⟩ := hr.sure o Bm N cs sh hm hcs
      have hcs0 : cs[0]? = some (.map om) := by
        cases cs with
        | nil => cases hom
        | cons a cs => have : a = .map om := hom; rw [this]; rfl
      obtain ⟨v0, hv0, hv1⟩ := hsure 0 _ hcs0
      cases hv1 with
      | map hmm =>
        rename_i bm Nm
        obtain ⟨l, clk, hbm, hER, hSt⟩ := hr.map om bm Nm es hmm (map?_obj hes)
        obtain ⟨hk1, hk2⟩ := strKeysA_sound hER hks
        rw [ble_iff, llen_eq] at hlen
        refine (hC w Bm bm l clk ks (hr.blk o Bm N hm) hv0 hbm hSt hk1 hk2 hlen).mono ?_
        rintro e w' ⟨v', ss, K, rfl, hperm, ⟨_, hrow⟩, hnil, hbelow⟩
        have hpl := hperm.length_eq
        cases hz : Nat.beq (llen ks) 0 with
        | true =>
          rw [hz] at h11
          cases h11
          have hz := Nat.eq_of_beq_eq_true hz
          rw [llen_eq] at hz
          have : ss = [] := List.eq_nil_of_length_eq_zero (by omega)
          rw [hnil.2 this]
          exact .inr ⟨_, m, rfl, .sl0, Step.below hr hw hbelow⟩
        | false =>
          rw [hz] at h11
          cases h11
          have hz := beqf_iff.1 hz
          rw [llen_eq] at hz
          rcases hrow with ⟨rfl, hn⟩ | ⟨gb, cap, cur, rfl, hbase, hgb, r1, r2, r3, r4⟩
          · exfalso; omega
          · have hcl : cur.size = cap := by omega
            have hcur : VRs m (lmap AV.str (sortL ks)) ((ss.mergeSort leB).map Proofs.encStr) := by rw [sortL_eq hperm]; exact str_VRs _
            have hgl : (lmap AV.str (sortL ks)).length = ss.length := by rw [lmap_eq, List.length_map, (sortL_perm ks).length_eq]; omega
            have hghost : Step m H w m (H.newRow (lmap AV.str (sortL ks))) w := Step.ghost (v := .bad) hr hw (.inr ⟨_, rfl⟩)
            have hobj : (H.newRow (lmap AV.str (sortL ks))).obj H.next = .cells (lmap AV.str (sortL ks)) (some (H.next, 0)) := by rw [obj_newRow, if_pos rfl]
            have hst := hghost.thenMade (o := H.next) (b0 := gb) (N := cap) (Nat.le_refl _) (Nat.lt_succ_self _) hr.fresh hbase hbelow hgb (by
              rw [hobj]
              refine ⟨cur, K, (0, 0), rfl, hcl, fun i _ hi => by simp at hi, by omega, fun i x hx => ?_⟩
              obtain ⟨u, hu1, hu2⟩ := hcur.get hx
              refine ⟨u, ?_, hu2⟩
              rw [← r4] at hu1
              rw [← Array.getElem?_toList]
              rw [List.getElem?_take] at hu1
              split at hu1
              · exact hu1
              · cases hu1) (fun cs c s hh => by
              rw [hobj] at hh
              simp at hh
              obtain ⟨rfl, rfl, rfl⟩ := hh
              exact ⟨rfl, by rw [clsOf_newRow, if_pos rfl, llen_eq]; exact Nat.le_refl _⟩)
            refine .inr ⟨_, _, rfl, ?_, hst⟩
            have hkl : llen ks = ss.length := by rw [llen_eq]; omega
            rw [hkl]
            exact .sl (Mp.add_same _ _ _) r1 r1 (by omega) (.inl rfl) (by simp)
end Go.Ai
