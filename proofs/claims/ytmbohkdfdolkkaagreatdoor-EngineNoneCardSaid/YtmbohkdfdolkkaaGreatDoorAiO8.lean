/- Lengths; the least and the greatest; maps. -/
import Derived.Test.YtmbohkdfdolkkaaGreatDoorAiO7
namespace Go.Ai
open Go
section
variable {P : Program} {T : Tab} {m : Mp}

theorem goN_sound {H H' : Heap} {w : World} (hr : Rel m H w) (hw : HW H) {n : Nat} {v : AV} {s : Sem Value} (h : goN n H = .val v H') (hs : s.run P w = .ok (goInt n) w) : Gives P m H w s v H' := by
  cases h
  exact ⟨_, w, m, hs, .int _ _, .refl hr hw⟩

theorem len_sound (hT : Fits T P) {H H' : Heap} {w : World} (hr : Rel m H w) (hw : HW H) {t ty : TypeId} {ts : Array TypeId} (hts : ts[0]? = some t) {x : AV} {x' : Value} (hx : VR m x x') {v : AV} (h : lenA T t x H = .val v H') :
    Gives P m H w (Builtin.len_ ts ty #[x']) v H' := by
  unfold lenA at h
  cases hx <;> try (cases h; done)
  case str s =>
    have h : cond (T.kind t).isString (goN (llen s.data.toList) H) .fail = .val v H' := h
    obtain ⟨hk, h⟩ := cond_cases h (by simp)
    have hu := kindOf_string (hT.kind (TK.isString_iff hk) (by simp))
    refine goN_sound hr hw h ?_
    have : llen s.data.toList = s.size := by rw [llen_eq]; exact Array.length_toList
    simp [Builtin.len_, hts, run_underlying hu, this]
  case sl0 =>
    have h : cond (T.kind t).isSlice (goN 0 H) .fail = .val v H' := h
    obtain ⟨hk, h⟩ := cond_cases h (by simp)
    obtain ⟨_, _, _, _, he⟩ := TK.isSlice_iff hk
    obtain ⟨e, ie, _, hu, hie, _⟩ := kindOf_slice (hT.kind he (by simp))
    exact goN_sound hr hw h (by simp [Builtin.len_, hts, run_underlying hu])
  case sl o b N off off' len cap cap' ex es hm hl hc' hN ho hex =>
    have h : cond (T.kind t).isSlice (goN len H) .fail = .val v H' := h
    obtain ⟨hk, h⟩ := cond_cases h (by simp)
    obtain ⟨_, _, _, _, he⟩ := TK.isSlice_iff hk
    obtain ⟨e, ie, _, hu, hie, _⟩ := kindOf_slice (hT.kind he (by simp))
    exact goN_sound hr hw h (by simp [Builtin.len_, hts, run_underlying hu])
  case map0 =>
    have h : cond (T.kind t).isMap (goN 0 H) .fail = .val v H' := h
    obtain ⟨hk, h⟩ := cond_cases h (by simp)
    obtain ⟨_, _, _, he⟩ := TK.isMap_iff hk
    obtain ⟨k, e, _, _, hu, _⟩ := kindOf_map (hT.kind he (by simp))
    exact goN_sound hr hw h (by simp [Builtin.len_, hts, run_underlying hu])
  case map o b N hm =>
    have h : cond (T.kind t).isMap (Option.casesOn (motive := fun _ => OR) (H.map? o) .fail fun es => goN (llen es) H) .fail = .val v H' := h
    obtain ⟨hk, h⟩ := cond_cases h (by simp)
    obtain ⟨_, _, _, he⟩ := TK.isMap_iff hk
    obtain ⟨k, e, _, _, hu, _⟩ := kindOf_map (hT.kind he (by simp))
    obtain ⟨es, hes, h⟩ := opt_cases h (by simp)
    have hobj : H.obj o = .map es := by
      unfold Heap.map? at hes
      cases ho : H.obj o <;> (rw [ho] at hes) <;> first | (cases hes; done) | (cases hes; rfl)
    obtain ⟨l, clk, hb, hER, hStm⟩ := hr.map o b N es hm hobj
    refine goN_sound hr hw h ?_
    have hlen : llen es = l.size := by rw [llen_eq, hER.length]; simp
    simp [Builtin.len_, hts, run_underlying hu, getObj, Sem.run, hb, hlen]

theorem map?_obj {H : Heap} {o : Nat} {es : List (AV × AV)} (h : H.map? o = some es) : H.obj o = .map es := by
  unfold Heap.map? at h
  cases ho : H.obj o <;> (rw [ho] at h) <;> first | (cases h; done) | (cases h; rfl)

theorem cap_sound (hT : Fits T P) {H H' : Heap} {w : World} (hr : Rel m H w) (hw : HW H) {t ty : TypeId} {ts : Array TypeId} (hts : ts[0]? = some t) {x : AV} {x' : Value} (hx : VR m x x') {v : AV} (h : capA T t x H = .val v H') :
    Gives P m H w (Builtin.cap_ ts ty #[x']) v H' := by
  unfold capA at h
  obtain ⟨hk, h⟩ := cond_cases h (by simp)
  obtain ⟨_, _, _, _, he⟩ := TK.isSlice_iff hk
  obtain ⟨e, ie, _, hu, hie, _⟩ := kindOf_slice (hT.kind he (by simp))
  cases hx <;> try (cases h; done)
  case sl0 => exact goN_sound hr hw h (by simp [Builtin.cap_, hts, run_underlying hu])
  case sl o b N off off' len cap cap' ex es hm hl hc' hN ho hex _ =>
    have h : cond ex (goN cap H) .fail = .val v H' := h
    obtain ⟨he, h⟩ := cond_cases h (by simp)
    have := hex he
    subst this
    exact goN_sound hr hw h (by simp [Builtin.cap_, hts, run_underlying hu])

theorem minA_sound {x y : AV} {x' y' : Value} (hx : VR m x x') (hy : VR m y y') (h : minA x y ≠ .bad) : Yields P m (Builtin.min2 x' y') (minA x y) := by
  obtain ⟨k, a, rfl, h1⟩ := onInt_cases (r := minA x y) rfl h
  obtain ⟨k2, b, rfl, h2⟩ := onInt_cases (d := AV.bad) h1 h
  obtain ⟨hk, h3⟩ := cond_cases h2 h
  rw [keq_eq] at hk
  have hk := of_decide_eq_true hk
  subst hk
  cases hx; cases hy
  rw [← h3, ilt_eq]
  refine ⟨.int k (if b < a then b else a), fun w => rfl, ?_⟩
  by_cases hab : b < a
  · rw [if_pos hab, decide_eq_true hab]; exact .int _ _
  · rw [if_neg hab, decide_eq_false hab]; exact .int _ _
theorem maxA_sound {x y : AV} {x' y' : Value} (hx : VR m x x') (hy : VR m y y') (h : maxA x y ≠ .bad) : Yields P m (Builtin.max2 x' y') (maxA x y) := by
  obtain ⟨k, a, rfl, h1⟩ := onInt_cases (r := maxA x y) rfl h
  obtain ⟨k2, b, rfl, h2⟩ := onInt_cases (d := AV.bad) h1 h
  obtain ⟨hk, h3⟩ := cond_cases h2 h
  rw [keq_eq] at hk
  have hk := of_decide_eq_true hk
  subst hk
  cases hx; cases hy
  rw [← h3, ilt_eq]
  refine ⟨.int k (if b > a then b else a), fun w => rfl, ?_⟩
  by_cases hab : a < b
  · rw [if_pos hab, decide_eq_true hab]; exact .int _ _
  · rw [if_neg hab, decide_eq_false hab]; exact .int _ _

theorem fold_bad {f : AV → AV → AV} (hf : ∀ y, f .bad y = .bad) : ∀ ys, foldA f ys .bad = .bad
  | [] => rfl
  | y :: ys => by show foldA f ys (f .bad y) = _; rw [hf]; exact fold_bad hf ys
theorem foldA_sound {f : AV → AV → AV} {g : Value → Value → Sem Value} (hf0 : ∀ y, f .bad y = .bad) (hf : ∀ x y x' y', VR m x x' → VR m y y' → f x y ≠ .bad → Yields P m (g x' y') (f x y)) :
    ∀ (ys : List AV) (ys' : List Value) (x : AV) (x' : Value), VRs m ys ys' → VR m x x' → foldA f ys x ≠ .bad → Yields P m (ys'.foldlM g x') (foldA f ys x)
  | [], _, x, x', .nil, hx, _ => ⟨x', fun w => rfl, hx⟩
  | y :: ys, _, x, x', .cons hy t, hx, h => by
    rename_i y' ys'
    have h : foldA f ys (f x y) ≠ .bad := h
    have hne : f x y ≠ .bad := fun e => h (by rw [e]; exact fold_bad hf0 ys)
    obtain ⟨z, h1, h2⟩ := hf x y x' y' hx hy hne
    obtain ⟨r, h3, h4⟩ := foldA_sound hf0 hf ys ys' (f x y) z t h2 h
    exact ⟨r, fun w => by simp [List.foldlM_cons, h1 w, h3 w], h4⟩

/-- A map that is written. -/
theorem Step.mapWrite {H : Heap} {w w' : World} (hr : Rel m H w) (hw : HW H) {o b N : Nat} {es es' : List (AV × AV)} (hm : m o = some (b, N)) (ho : H.obj o = .map es) {l' : Array MapEntry} {clk : Nat}
    (hER : ERs m es' l'.toList) (hSt : MapKept.Stamped l' clk) (here : w'.heap[b]? = some (.map l' clk)) (other : ∀ k, k ≠ b → w'.heap[k]? = w.heap[k]?) (hsz : w'.heap.size = w.heap.size) (hos : w'.os = w.os) (htape : w'.tape = w.tape) (hout : w'.output = w.output) :
    Step m H w m (H.put o (.map es')) w' := by
  obtain ⟨l, c0, hb, _⟩ := hr.map o b N es hm ho
  have hcells : ∀ j cs sh, (H.put o (.map es')).obj j = .cells cs sh → H.obj j = .cells cs sh := by
    intro j cs sh h
    rw [obj_put] at h
    by_cases e : j = o
    · rw [if_pos e] at h; cases h
    · rw [if_neg e] at h; exact h
  have hsure : ∀ j cs sh, (H.put o (.map es')).cells? j = .some cs sh → H.cells? j = .some cs sh := by
    intro j cs sh h
    obtain ⟨h1, h2⟩ := cells?_some.1 h
    exact cells?_some.2 ⟨hcells j cs sh h1, h2⟩
  have hne : ∀ j b' N' cs sh, m j = some (b', N') → H.obj j = .cells cs sh → b' ≠ b := by
    rintro j b' N' cs sh hj hobj rfl
    obtain ⟨c, e, fz, h1, _⟩ := hr.cells j b' N' cs sh hj hobj
    rw [hb] at h1; cases h1
  refine ⟨⟨fun j p hj => hr.dom j p hj, fun j b' N' hj => by rw [hsz]; exact hr.blk j b' N' hj, ?_, ?_, ?_, ?_, ?_, ?_⟩, ⟨?_, ?_, ?_⟩, m.le_refl, fun _ _ _ h => .inl h, ?_, by omega, Nat.le_refl _, hos, htape, hout,
    ⟨fun j _ hj => by rw [obj_put, if_neg (fun e => by rw [e, hm] at hj; cases hj)], fun k _ hl => ⟨rfl, fun j p cs s hj hh => hl j p cs s hj (hcells j cs _ hh)⟩⟩, fun j b' N' cs sh hj hc _ => by
      obtain ⟨h1, h2⟩ := cells?_some.1 hc
      have hj' : j ≠ o := by rintro rfl; rw [ho] at h1; cases h1
      exact ⟨cells?_some.2 ⟨by rw [obj_put, if_neg hj']; exact h1, h2⟩, other b' (hne j b' N' cs sh hj h1)⟩⟩
  · intro j b' N' cs sh hj hobj
    have h0 := hcells j cs sh hobj
    obtain ⟨c, e, fz, h1, h2, h3⟩ := hr.cells j b' N' cs sh hj h0
    exact ⟨c, e, fz, by rw [other b' (hne j b' N' cs sh hj h0)]; exact h1, h2, h3⟩
  · intro j b' N' cs sh hj h
    have h0 := hsure j cs sh h
    obtain ⟨h1, h2⟩ := hr.sure j b' N' cs sh hj h0
    refine ⟨h1, fun i a hi => ?_⟩
    obtain ⟨v, h3, h4⟩ := h2 i a hi
    refine ⟨v, ?_, h4⟩
    have := other b' (hne j b' N' cs sh hj (cells?_some.1 h0).1)
    simp only [World.cell?, this] at h3 ⊢; exact h3
  · intro j p cs c s hj h; exact hr.ext j p cs c s hj (hsure j cs _ h)
  · intro j j' b' N' N'' cs sh cs' sh' hj hj' hn h h'
    exact hr.sep j j' b' N' N'' cs sh cs' sh' hj hj' hn (hsure j cs sh h) (hsure j' cs' sh' h')
  · intro j b' N' es2 hj hobj
    rw [obj_put] at hobj
    by_cases e : j = o
    · subst e; rw [if_pos rfl] at hobj; cases hobj
      rw [hm] at hj; cases hj
      exact ⟨l', clk, here, hER, hSt⟩
    · rw [if_neg e] at hobj
      obtain ⟨l2, clk2, h1, h2, h3⟩ := hr.map j b' N' es2 hj hobj
      have hbb : b' ≠ b := by rintro rfl; exact e (hr.mapsep j o b' N' N es2 es hj hm hobj ho)
      exact ⟨l2, clk2, by rw [other b' hbb]; exact h1, h2, h3⟩
  · intro j j' b' N' N'' e1 e2 hj hj' hobj hobj'
    have key : ∀ j e1, (H.put o (.map es')).obj j = .map e1 → ∃ e, H.obj j = .map e := by
      intro j e1 h
      rw [obj_put] at h
      by_cases e : j = o
      · rw [e]; exact ⟨es, ho⟩
      · rw [if_neg e] at h; exact ⟨e1, h⟩
    obtain ⟨q1, g1⟩ := key j e1 hobj
    obtain ⟨q2, g2⟩ := key j' e2 hobj'
    exact hr.mapsep j j' b' N' N'' q1 q2 hj hj' g1 g2
  · intro j hj
    rw [obj_put] at hj
    by_cases e : j = o
    · rw [e]; exact hw.objlt o (by rw [ho]; simp)
    · rw [if_neg e] at hj; exact hw.objlt j hj
  · intro j cs c s h; exact hw.clslt j cs c s (hcells j cs _ h)
  · intro j cs c s h; exact hw.clsst j cs c s (hcells j cs _ h)
  · intro k _ hk
    exact other k (fun e => hk o N (by rw [e]; exact hm))

/-- A type of keys. -/
def KeyT (P : Program) (kint kstr : Bool) (key : TypeId) : Prop := (kint = true → ∃ q, P.underlying key = some (.int q)) ∧ (kstr = true → P.underlying key = some .string)

theorem checkKey_run {kint kstr : Bool} {key : TypeId} (hk : KeyT P kint kstr key) {k : AV} {k' : Value} (hv : VR m k k') (ho : keyOk kint kstr k = true) (empty : Bool) (d : Nat) (w : World) :
    (Instr.checkKey empty (d + 1) key k').run P w = .ok () w := by
  cases hv <;> try (cases ho; done)
  · obtain ⟨q, hq⟩ := hk.1 ho
    simp [Instr.checkKey, run_underlying hq]
  · have hq := hk.2 ho
    simp [Instr.checkKey, run_underlying hq]

theorem findA_sound {kint kstr : Bool} {key : TypeId} (hk : KeyT P kint kstr key) {k : AV} {k' : Value} (hv : VR m k k') (ho : keyOk kint kstr k = true) :
    ∃ d, P.underlying key = some d ∧ ∀ (es : List (AV × AV)) (l : List MapEntry) (i : Nat), ERs m es l →
      (findA k es i = .no → Instr.findNow d k' l i = some none ∧ ∀ e ∈ l, e.key ≠ k') ∧
      (∀ j v, findA k es i = .at_ j v → ∃ e, i ≤ j ∧ l[j - i]? = some e ∧ Instr.findNow d k' l i = some (some (j, e.val)) ∧ VR m v e.val ∧ Instr.sameBits 10000 e.key k' = true ∧ e.key = k') := by
  cases hv <;> try (cases ho; done)
  case int kk n =>
    obtain ⟨q, hq⟩ := hk.1 ho
    refine ⟨_, hq, fun es => ?_⟩
    induction es with
    | nil => intro l i h; cases h; exact ⟨fun _ => ⟨rfl, fun _ h => (by cases h)⟩, fun j v h => (by cases h)⟩
    | cons e0 es ih =>
      intro l i h
      cases h
      rename_i k1 v1 e l hk1 hv1 ht
      have hstep : findA (.int kk n) ((k1, v1) :: es) i = (cellEq (.int kk n) k1).onBool .unknown fun b => cond b (.at_ i v1) (findA (.int kk n) es (Nat.succ i)) := rfl
      rw [hstep]
      generalize hkk : e.key = ek at hk1
      cases hk1
      case int k2 n2 =>
        have hce : cellEq (.int kk n) (.int k2 n2) = cond (keq kk k2) (.bool (ieq n n2)) .bad := rfl
        rw [hce, keq_eq, ieq_eq]
        by_cases hkeq : kk = k2
        · subst hkeq
          rw [decide_eq_true rfl]
          by_cases hn : n = n2
          · subst hn
            rw [decide_eq_true rfl]
            refine ⟨fun h => (by cases h), fun j v h => ?_⟩
            have h : FR.at_ i v1 = .at_ j v := h
            cases h
            refine ⟨e, Nat.le_refl _, by simp, by simp [Instr.findNow, Instr.sameNow, hkk], hv1, by rw [hkk]; simp [Instr.sameBits], hkk⟩
          · rw [decide_eq_false hn]
            obtain ⟨h1, h2⟩ := ih l (i + 1) ht
            have hfn : Instr.findNow (.int q) (.int kk n) (e :: l) i = Instr.findNow (.int q) (.int kk n) l (i + 1) := by
              have hb : (n == n2) = false := by simpa using hn
              simp [Instr.findNow, Instr.sameNow, hkk, hb]
            rw [hfn]
            refine ⟨fun h => ⟨(h1 h).1, fun x hx => ?_⟩, fun j v h => ?_⟩
            · rcases List.mem_cons.1 hx with rfl | hx
              · rw [hkk]; intro hh; cases hh; exact hn rfl
              · exact (h1 h).2 x hx
            obtain ⟨e', a1, a2, a3, a4, a5⟩ := h2 j v h
            refine ⟨e', by omega, ?_, a3, a4, a5⟩
            rw [show j - i = (j - (i + 1)) + 1 by omega]; simpa using a2
        · rw [decide_eq_false hkeq]
          exact ⟨fun h => (by cases h), fun j v h => (by cases h)⟩
      all_goals (refine ⟨fun h => ?_, fun j v h => ?_⟩ <;> cases h)
  case str s =>
    have hq := hk.2 ho
    refine ⟨_, hq, fun es => ?_⟩
    induction es with
    | nil => intro l i h; cases h; exact ⟨fun _ => ⟨rfl, fun _ h => (by cases h)⟩, fun j v h => (by cases h)⟩
    | cons e0 es ih =>
      intro l i h
      cases h
      rename_i k1 v1 e l hk1 hv1 ht
      have hstep : findA (.str s.data.toList) ((k1, v1) :: es) i = (cellEq (.str s.data.toList) k1).onBool .unknown fun b => cond b (.at_ i v1) (findA (.str s.data.toList) es (Nat.succ i)) := rfl
      rw [hstep]
      generalize hkk : e.key = ek at hk1
      cases hk1
      case str s2 =>
        have hce : cellEq (.str s.data.toList) (.str s2.data.toList) = .bool (seq s.data.toList s2.data.toList) := rfl
        rw [hce, seq_eq]
        have hbeq : (s == s2) = (s.data.toList == s2.data.toList) := by rw [beq_toListBytes, ByteArray.toList_eq, ByteArray.toList_eq]
        cases hs : (s.data.toList == s2.data.toList) with
        | true =>
          have hss : s = s2 := ByteArray.ext (Array.toList_inj.1 (eq_of_beq hs))
          subst hss
          refine ⟨fun h => (by cases h), fun j v h => ?_⟩
          have h : FR.at_ i v1 = .at_ j v := h
          cases h
          have hself : (s == s) = true := hbeq.trans hs
          refine ⟨e, Nat.le_refl _, by simp, by simp [Instr.findNow, Instr.sameNow, hkk, hself], hv1, by rw [hkk]; simp [Instr.sameBits, hself], hkk⟩
        | false =>
          rw [hs] at hbeq
          obtain ⟨h1, h2⟩ := ih l (i + 1) ht
          have hfn : Instr.findNow .string (.string s) (e :: l) i = Instr.findNow .string (.string s) l (i + 1) := by
            simp [Instr.findNow, Instr.sameNow, hkk, hbeq]
          rw [hfn]
          refine ⟨fun h => ⟨(h1 h).1, fun x hx => ?_⟩, fun j v h => ?_⟩
          · rcases List.mem_cons.1 hx with rfl | hx
            · rw [hkk]; intro hh; cases hh; simp at hs
            · exact (h1 h).2 x hx
          obtain ⟨e', a1, a2, a3, a4, a5⟩ := h2 j v h
          refine ⟨e', by omega, ?_, a3, a4, a5⟩
          rw [show j - i = (j - (i + 1)) + 1 by omega]; simpa using a2
      all_goals (refine ⟨fun h => ?_, fun j v h => ?_⟩ <;> cases h)

theorem fr_cases {x : FR} {d a : OR} {f : Nat → AV → OR} {r : OR} (h : FR.casesOn (motive := fun _ => OR) x d a f = r) (hr : r ≠ d) : (x = .no ∧ a = r) ∨ ∃ i v, x = .at_ i v ∧ f i v = r := by
  cases x with
  | unknown => exact absurd h.symm hr
  | no => exact .inl ⟨rfl, h⟩
  | at_ i v => exact .inr ⟨i, v, rfl, h⟩

theorem findKey_now {key : TypeId} {d : TypeDesc} {k : Value} {l : List MapEntry} {r : Option (Nat × Value)} (hd : P.underlying key = some d) (h : Instr.findNow d k l 0 = some r) (w : World) : (Instr.findKey key k l).run P w = .ok r w := by
  simp [Instr.findKey, run_underlying hd, h]

theorem zero_run {e : TypeId} {i : TypeInfo} {z : Value} (hi : P.info? e = some i) (hz : i.zero = some z) (w : World) : (zeroValue e).run P w = .ok z w := by
  simp [zeroValue, typeInfo, hi, hz]

theorem lookup_sound (hT : Fits T P) {H H' : Heap} {w : World} (hr : Rel m H w) (hw : HW H) {t : TypeId} {x k : AV} {ok : Bool} {x' k' : Value} (hx : VR m x x') (hk : VR m k k') {v : AV} (h : lookupA T t x k ok H = .val v H') :
    Gives P m H w (Instr.lookup t x' k' ok) v H' := by
  unfold lookupA at h
  obtain ⟨kint, kstr, z, hkind, h⟩ := onMap_cases h (by simp)
  obtain ⟨hko, h⟩ := cond_cases h (by simp)
  obtain ⟨key, e, i, zv, hu, hi, hz, rfl, k1, k2⟩ := kindOf_map (hT.kind hkind (by simp))
  have hKT : KeyT P kint kstr key := ⟨k1, k2⟩
  obtain ⟨d, hd, hfind⟩ := findA_sound hKT hk hko
  have fin : ∀ {u : AV} {u' : Value} {b : Bool}, VR m u u' → (cond ok (.val (.tup [u, .bool b]) H) (OR.of u H)) = OR.val v H' → H' = H ∧ VR m v (if ok then .tuple #[u', .bool b] else u') := by
    intro u u' b hu h
    cases ok with
    | true => cases h; exact ⟨rfl, .tup (.cons hu (.cons (.bool b) .nil))⟩
    | false =>
      obtain ⟨rfl, rfl, _⟩ := OR.of_val h
      exact ⟨rfl, hu⟩
  have hck := fun b => checkKey_run (P := P) hKT hk hko b 9999 w
  cases hx <;> try (cases h; done)
  case map0 =>
    have h : cond ok (.val (.tup [ofValue zv, .bool false]) H) (OR.of (ofValue zv) H) = OR.val v H' := h
    obtain ⟨rfl, hv⟩ := fin (.ofValue zv) h
    refine ⟨_, w, m, ?_, hv, .refl hr hw⟩
    have hf := findKey_now (P := P) (k := k') (l := []) (r := none) hd rfl w
    simp [Instr.lookup, run_underlying hu, hck, hf, zero_run hi hz]
  case map o b N hm _ _ =>
    have h : Option.casesOn (motive := fun _ => OR) (H.map? o) .fail (fun es => FR.casesOn (motive := fun _ => OR) (findA k es 0) .fail
        (cond ok (.val (.tup [ofValue zv, .bool false]) H) (OR.of (ofValue zv) H)) (fun _ v => cond ok (.val (.tup [v, .bool true]) H) (OR.of v H))) = OR.val v H' := h
    obtain ⟨es, hes, h⟩ := opt_cases h (by simp)
    obtain ⟨l, clk, hb, hER, hStm⟩ := hr.map o b N es hm (map?_obj hes)
    obtain ⟨f1, f2⟩ := hfind es l.toList 0 hER
    rcases fr_cases h (by simp) with ⟨hno, h⟩ | ⟨j, u, hat, h⟩
    · obtain ⟨rfl, hv⟩ := fin (.ofValue zv) h
      refine ⟨_, w, m, ?_, hv, .refl hr hw⟩
      have hf := findKey_now (P := P) hd (f1 hno).1 w
      simp [Instr.lookup, run_underlying hu, getObj, Sem.run, hb, hck, hf, zero_run hi hz]
    · obtain ⟨e', _, _, a3, a4, _⟩ := f2 j u hat
      obtain ⟨rfl, hv⟩ := fin a4 h
      refine ⟨_, w, m, ?_, hv, .refl hr hw⟩
      have hf := findKey_now (P := P) hd a3 w
      simp [Instr.lookup, run_underlying hu, getObj, Sem.run, hb, hck, hf]

theorem run_setMap {w : World} {b : Nat} {l : Array MapEntry} {clk : Nat} (hb : w.heap[b]? = some (.map l clk)) (B : Obj) : (setObj b B).run P w = .ok () { w with heap := w.heap.setIfInBounds b B } := by
  simp [setObj, Sem.run, hb]

theorem ERs.set {es : List (AV × AV)} {l : List MapEntry} (h : ERs m es l) {k v : AV} {e : MapEntry} (hk : VR m k e.key) (hv : VR m v e.val) (j : Nat) : ERs m (es.set j (k, v)) (l.set j e) := by
  induction h generalizing j with
  | nil => exact .nil
  | cons h1 h2 t ih => cases j with
    | zero => exact .cons hk hv t
    | succ j => exact .cons h1 h2 (ih j)
theorem ERs.snoc {es : List (AV × AV)} {l : List MapEntry} (h : ERs m es l) {k v : AV} {e : MapEntry} (hk : VR m k e.key) (hv : VR m v e.val) : ERs m (es ++ [(k, v)]) (l ++ [e]) := by
  induction h with
  | nil => exact .cons hk hv .nil
  | cons h1 h2 t ih => exact .cons h1 h2 ih
theorem ERs.erase {es : List (AV × AV)} {l : List MapEntry} (h : ERs m es l) (j : Nat) : ERs m (es.eraseIdx j) (l.eraseIdx j) := by
  induction h generalizing j with
  | nil => exact .nil
  | cons h1 h2 t ih => cases j with
    | zero => exact t
    | succ j => exact .cons h1 h2 (ih j)

theorem lput_one {α : Type} (l : List α) (i : Nat) (a : α) : lput l i [a] = l.set i a := by
  apply List.ext_getElem?
  intro j
  rw [lput_getElem?, List.getElem?_set]
  by_cases h : i = j
  · subst h
    by_cases hl : i < l.length
    · rw [if_pos (by simp; exact hl), if_pos rfl, if_pos hl]; simp
    · rw [if_neg (by omega), if_pos rfl, if_neg hl, List.getElem?_eq_none (by omega)]
  · rw [if_neg h, if_neg (by simp; omega)]

theorem mapUpdate_sound (hT : Fits T P) {H H' : Heap} {w : World} (hr : Rel m H w) (hw : HW H) {t : TypeId} {x k u : AV} {x' k' u' : Value} (hx : VR m x x') (hk : VR m k k') (hu' : VR m u u') (h : mapUpdateA T t x k u H = .skip H') :
    Does P m H w (Instr.mapUpdate t x' k' u') H' := by
  unfold mapUpdateA at h
  obtain ⟨kint, kstr, z, hkind, h⟩ := onMap_cases h (by simp)
  obtain ⟨hko, h⟩ := cond_cases h (by simp)
  obtain ⟨key, e, i, zv, hu, hi, hz, rfl, k1, k2⟩ := kindOf_map (hT.kind hkind (by simp))
  have hKT : KeyT P kint kstr key := ⟨k1, k2⟩
  obtain ⟨d, hd, hfind⟩ := findA_sound hKT hk hko
  have hck := checkKey_run (P := P) hKT hk hko false 9999 w
  cases hx <;> try (cases h; done)
  rename_i o b N hm _ _
  have h : Option.casesOn (motive := fun _ => OR) (H.map? o) .fail (fun es => FR.casesOn (motive := fun _ => OR) (findA k es 0) .fail
        (.skip (H.put o (.map (lapp es [(k, u)])))) (fun i _ => .skip (H.put o (.map (lput es i [(k, u)]))))) = OR.skip H' := h
  obtain ⟨es, hes, h⟩ := opt_cases h (by simp)
  have hobj := map?_obj hes
  obtain ⟨l, clk, hb, hER, hStm⟩ := hr.map o b N es hm hobj
  have hbl : b < w.heap.size := (Array.getElem?_eq_some_iff.1 hb).1
  obtain ⟨f1, f2⟩ := hfind es l.toList 0 hER
  have hset : ∀ B : Obj, ({ w with heap := w.heap.setIfInBounds b B } : World).heap[b]? = some B := by intro B; simp [hbl]
  have hoth : ∀ (B : Obj) k, k ≠ b → ({ w with heap := w.heap.setIfInBounds b B } : World).heap[k]? = w.heap[k]? := by
    intro B k hk; simp [Array.getElem?_setIfInBounds, Ne.symm hk]
  rcases fr_cases h (by simp) with ⟨hno, h⟩ | ⟨j, uu, hat, h⟩
  · cases h
    refine ⟨{ w with heap := w.heap.setIfInBounds b (.map (l.push { key := k', val := u', born := clk }) (clk + 1)) }, m, ?_, ?_⟩
    · have hf := findKey_now (P := P) hd (f1 hno).1 w
      simp [Instr.mapUpdate, run_underlying hu, getObj, Sem.run, hb, hck, hf, run_setMap hb]
    · rw [lapp_eq]
      exact Step.mapWrite hr hw hm hobj (l' := l.push { key := k', val := u', born := clk }) (by simpa using hER.snoc (e := { key := k', val := u', born := clk }) hk hu') (MapKept.stamped_push hStm (f1 hno).2) (hset _) (hoth _) (by simp) rfl rfl rfl
  · cases h
    obtain ⟨e', _, a2, a3, a4, a5, a6⟩ := f2 j uu hat
    refine ⟨{ w with heap := w.heap.setIfInBounds b (.map (l.modify j fun e => { e with key := k', val := u' }) clk) }, m, ?_, ?_⟩
    · have hf := findKey_now (P := P) hd a3 w
      have hlj : l[j]? = some e' := by simpa using a2
      simp [Instr.mapUpdate, run_underlying hu, getObj, Sem.run, hb, hck, hf, hlj, Instr.keyThatStays, a5, run_setMap hb]
    · rw [lput_one]
      have hlj : l[j]? = some e' := by simpa using a2
      have hmod : (l.modify j fun e => { e with key := k', val := u' }).toList = l.toList.set j { e' with key := k', val := u' } := by
        apply List.ext_getElem?
        intro q
        rw [Array.getElem?_toList, Array.getElem?_modify, List.getElem?_set]
        by_cases hq : j = q
        · subst hq
          have hlt : j < l.size := (Array.getElem?_eq_some_iff.1 hlj).1
          rw [if_pos rfl, if_pos rfl, if_pos (by simpa using hlt), hlj]; rfl
        · rw [if_neg hq, if_neg hq, Array.getElem?_toList]
      exact Step.mapWrite hr hw hm hobj (l' := l.modify j fun e => { e with key := k', val := u' }) (by rw [hmod]; exact hER.set (e := { e' with key := k', val := u' }) hk hu' j) (MapKept.stamped_modify hStm j _ (fun _ _ => rfl) (fun q _ hq => by rw [hlj] at hq; cases hq; exact a6.symm)) (hset _) (hoth _) (by simp) rfl rfl rfl

theorem delete_sound (hT : Fits T P) {H H' : Heap} {w : World} (hr : Rel m H w) (hw : HW H) {t ty : TypeId} {ts : Array TypeId} (hts : ts[0]? = some t) {x k : AV} {x' k' : Value} (hx : VR m x x') (hk : VR m k k') {v : AV} (h : deleteA T t x k H = .val v H') :
    Gives P m H w (Builtin.delete_ ts ty #[x', k']) v H' := by
  unfold deleteA at h
  obtain ⟨kint, kstr, z, hkind, h⟩ := onMap_cases h (by simp)
  obtain ⟨hko, h⟩ := cond_cases h (by simp)
  obtain ⟨key, e, i, zv, hu, hi, hz, rfl, k1, k2⟩ := kindOf_map (hT.kind hkind (by simp))
  have hKT : KeyT P kint kstr key := ⟨k1, k2⟩
  obtain ⟨d, hd, hfind⟩ := findA_sound hKT hk hko
  have hck := fun b => checkKey_run (P := P) hKT hk hko b 9999 w
  cases hx <;> try (cases h; done)
  case map0 =>
    have h : OR.val (.tup []) H = OR.val v H' := h
    cases h
    refine ⟨.tuple #[], w, m, ?_, .tup .nil, .refl hr hw⟩
    simp [Builtin.delete_, hts, run_underlying hu, hck]
  case map o b N hm _ _ =>
    have h : Option.casesOn (motive := fun _ => OR) (H.map? o) .fail (fun es => FR.casesOn (motive := fun _ => OR) (findA k es 0) .fail
        (.val (.tup []) H) (fun i _ => .val (.tup []) (H.put o (.map (lerase es i))))) = OR.val v H' := h
    obtain ⟨es, hes, h⟩ := opt_cases h (by simp)
    have hobj := map?_obj hes
    obtain ⟨l, clk, hb, hER, hStm⟩ := hr.map o b N es hm hobj
    have hbl : b < w.heap.size := (Array.getElem?_eq_some_iff.1 hb).1
    obtain ⟨f1, f2⟩ := hfind es l.toList 0 hER
    have hset : ∀ B : Obj, ({ w with heap := w.heap.setIfInBounds b B } : World).heap[b]? = some B := by intro B; simp [hbl]
    have hoth : ∀ (B : Obj) k, k ≠ b → ({ w with heap := w.heap.setIfInBounds b B } : World).heap[k]? = w.heap[k]? := by
      intro B k hk; simp [Array.getElem?_setIfInBounds, Ne.symm hk]
    rcases fr_cases h (by simp) with ⟨hno, h⟩ | ⟨j, uu, hat, h⟩
    · cases h
      have hself : ({ w with heap := w.heap.setIfInBounds b (.map l clk) } : World) = w := by
        have : w.heap.setIfInBounds b (.map l clk) = w.heap := by
          apply Array.ext_getElem?
          intro q
          rw [Array.getElem?_setIfInBounds]
          by_cases hq : b = q
          · subst hq; rw [if_pos rfl, if_pos hbl, hb]
          · rw [if_neg hq]
        rw [this]
      refine ⟨.tuple #[], w, m, ?_, .tup .nil, .refl hr hw⟩
      have hf := findKey_now (P := P) hd (f1 hno).1 w
      simp [Builtin.delete_, hts, run_underlying hu, getObj, Sem.run, hb, hck, hf, run_setMap hb, hself]
    · cases h
      obtain ⟨e', _, a2, a3, a4, a5⟩ := f2 j uu hat
      refine ⟨.tuple #[], { w with heap := w.heap.setIfInBounds b (.map (l.eraseIdxIfInBounds j) clk) }, m, ?_, .tup .nil, ?_⟩
      · have hf := findKey_now (P := P) hd a3 w
        simp [Builtin.delete_, hts, run_underlying hu, getObj, Sem.run, hb, hck, hf, run_setMap hb]
      · rw [lerase_eq]
        exact Step.mapWrite hr hw hm hobj (l' := l.eraseIdxIfInBounds j) (by simpa using hER.erase j) (MapKept.stamped_erase hStm j) (hset _) (hoth _) (by simp) rfl rfl rfl
end
end Go.Ai
