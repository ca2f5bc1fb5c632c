/- The operators whole. -/
import Derived.Test.YtmbohkdfdolkkaaGreatDoorAiO2
namespace Go.Ai
open Go
section
variable {P : Program} {T : Tab} {m : Mp}

theorem eq_p00 (d : Nat) {t e : TypeId} (hu : P.underlying t = some (.pointer e)) (w : World) : (Op.equalIn (d + 1) t (.pointer none) (.pointer none)).run P w = .ok true w := by simp [Op.equalIn, run_underlying hu]
theorem eq_p01 (d : Nat) {t e : TypeId} (hu : P.underlying t = some (.pointer e)) (w : World) {a : Addr} : (Op.equalIn (d + 1) t (.pointer none) (.pointer (some a))).run P w = .ok false w := by simp [Op.equalIn, run_underlying hu]
theorem eq_p10 (d : Nat) {t e : TypeId} (hu : P.underlying t = some (.pointer e)) (w : World) {a : Addr} : (Op.equalIn (d + 1) t (.pointer (some a)) (.pointer none)).run P w = .ok false w := by simp [Op.equalIn, run_underlying hu]
theorem eq_s00 (d : Nat) {t e : TypeId} (hu : P.underlying t = some (.slice e)) (w : World) {n c n' c' : Nat} : (Op.equalIn (d + 1) t (.slice none n c) (.slice none n' c')).run P w = .ok true w := by simp [Op.equalIn, run_underlying hu]
theorem eq_s01 (d : Nat) {t e : TypeId} (hu : P.underlying t = some (.slice e)) (w : World) {a : Addr} {n c n' c' : Nat} : (Op.equalIn (d + 1) t (.slice none n c) (.slice (some a) n' c')).run P w = .ok false w := by simp [Op.equalIn, run_underlying hu]
theorem eq_s10 (d : Nat) {t e : TypeId} (hu : P.underlying t = some (.slice e)) (w : World) {a : Addr} {n c n' c' : Nat} : (Op.equalIn (d + 1) t (.slice (some a) n c) (.slice none n' c')).run P w = .ok false w := by simp [Op.equalIn, run_underlying hu]
theorem eq_m00 (d : Nat) {t k e : TypeId} (hu : P.underlying t = some (.map k e)) (w : World) : (Op.equalIn (d + 1) t (.map none) (.map none)).run P w = .ok true w := by simp [Op.equalIn, run_underlying hu]
theorem eq_m01 (d : Nat) {t k e : TypeId} (hu : P.underlying t = some (.map k e)) (w : World) {r : Nat} : (Op.equalIn (d + 1) t (.map none) (.map (some r))).run P w = .ok false w := by simp [Op.equalIn, run_underlying hu]
theorem eq_m10 (d : Nat) {t k e : TypeId} (hu : P.underlying t = some (.map k e)) (w : World) {r : Nat} : (Op.equalIn (d + 1) t (.map (some r)) (.map none)).run P w = .ok false w := by simp [Op.equalIn, run_underlying hu]
theorem eq_f00 (d : Nat) {t : TypeId} {a b : Array TypeId} {c : Bool} (hu : P.underlying t = some (.func a b c)) (w : World) : (Op.equalIn (d + 1) t .nilFunc .nilFunc).run P w = .ok true w := by simp [Op.equalIn, run_underlying hu]
theorem eq_f01 (d : Nat) {t : TypeId} {a b : Array TypeId} {c : Bool} (hu : P.underlying t = some (.func a b c)) (w : World) {f : Fn} {x y : Array Value} : (Op.equalIn (d + 1) t .nilFunc (.func f x y)).run P w = .ok false w := by simp [Op.equalIn, run_underlying hu]
theorem eq_f10 (d : Nat) {t : TypeId} {a b : Array TypeId} {c : Bool} (hu : P.underlying t = some (.func a b c)) (w : World) {f : Fn} {x y : Array Value} : (Op.equalIn (d + 1) t (.func f x y) .nilFunc).run P w = .ok false w := by simp [Op.equalIn, run_underlying hu]

/-- What '==' comes to. -/
def EqTo (P : Program) (t : TypeId) (x' y' : Value) (b : Bool) : Prop := ∀ w, (Op.equal t x' y').run P w = .ok b w
/-- The guard ahead of '==' and '!='. -/
def Guarded (P : Program) (op : BinOp) (t : TypeId) (xo yo : Operand) (x' y' : Value) : Prop := ∀ w, (eqGuard op t xo yo x' y').run P w = .ok () w

theorem guard_plain {op : BinOp} {t : TypeId} {xo yo : Operand} {x' y' : Value} (h1 : ¬ (x' = .nilIface ∧ y' = .nilIface)) (h2 : ∀ a b, ¬ (x' = .agg a ∧ y' = .agg b)) : Guarded P op t xo yo x' y' := by
  intro w
  cases op <;> unfold eqGuard <;> simp <;> (try (split <;> first | rfl | simp_all))

theorem eqA_sound (hT : Fits T P) {t : TypeId} {x y : AV} {x' y' : Value} (hx : VR m x x') (hy : VR m y y') {b : Bool} (h : eqA T t x y = .bool b) :
    EqTo P t x' y' b ∧ ∀ op xo yo, Guarded P op t xo yo x' y' := by
  cases hx
  case bool a =>
    have h' : cond (T.kind t).isBool (y.onBool AV.bad fun b => AV.bool (cond a b (not b))) AV.bad = .bool b := h
    cases hk : (T.kind t).isBool with
    | false => rw [hk] at h'; cases h'
    | true =>
      rw [hk] at h'
      have hu := kindOf_bool (hT.kind (TK.isBool_iff hk) (by simp))
      cases hy <;> try (cases h'; done)
      rename_i a2
      have hb : b = (a == a2) := by have := AV.bool.inj h'; rw [cond_beq] at this; exact this.symm
      subst hb
      exact ⟨fun w => run_equal_bool w t a a2 hu, fun op xo yo => guard_plain (by simp) (by simp)⟩
  case ptr0 =>
    have h' : cond (T.kind t).isPointer (y.nilOf true false false false) AV.bad = .bool b := h
    cases hk : (T.kind t).isPointer with
    | false => rw [hk] at h'; cases h'
    | true =>
      rw [hk] at h'
      obtain ⟨e, he⟩ := TK.isPointer_iff hk
      have hu := kindOf_pointer (hT.kind he (by simp))
      cases hy <;> try (cases h'; done)
      · refine ⟨fun w => ?_, fun op xo yo => guard_plain (by simp) (by simp)⟩
        have : b = true := (AV.bool.inj h').symm
        subst this; exact eq_p00 9999 hu w
      · refine ⟨fun w => ?_, fun op xo yo => guard_plain (by simp) (by simp)⟩
        have : b = false := (AV.bool.inj h').symm
        subst this; exact eq_p01 9999 hu w
  case ptr o bb N off hm =>
    cases hk : (T.kind t).isPointer with
    | false => have h' : cond (T.kind t).isPointer _ AV.bad = .bool b := h; rw [hk] at h'; cases h'
    | true =>
      have h' : cond (T.kind t).isPointer _ AV.bad = .bool b := h
      rw [hk] at h'
      obtain ⟨e, he⟩ := TK.isPointer_iff hk
      have hu := kindOf_pointer (hT.kind he (by simp))
      cases hy <;> try (cases h'; done)
      refine ⟨fun w => ?_, fun op xo yo => guard_plain (by simp) (by simp)⟩
      have : b = false := (AV.bool.inj h').symm
      subst this; exact eq_p10 9999 hu w
  case sl0 =>
    have h' : cond (T.kind t).isSlice (y.nilOf false true false false) AV.bad = .bool b := h
    cases hk : (T.kind t).isSlice with
    | false => rw [hk] at h'; cases h'
    | true =>
      rw [hk] at h'
      obtain ⟨_, _, _, _, he⟩ := TK.isSlice_iff hk
      obtain ⟨e, _, _, hu, _⟩ := kindOf_slice (hT.kind he (by simp))
      cases hy <;> try (cases h'; done)
      · refine ⟨fun w => ?_, fun op xo yo => guard_plain (by simp) (by simp)⟩
        have : b = true := (AV.bool.inj h').symm
        subst this; exact eq_s00 9999 hu w
      · refine ⟨fun w => ?_, fun op xo yo => guard_plain (by simp) (by simp)⟩
        have : b = false := (AV.bool.inj h').symm
        subst this; exact eq_s01 9999 hu w
  case sl =>
    cases hk : (T.kind t).isSlice with
    | false => have h' : cond (T.kind t).isSlice _ AV.bad = .bool b := h; rw [hk] at h'; cases h'
    | true =>
      have h' : cond (T.kind t).isSlice _ AV.bad = .bool b := h
      rw [hk] at h'
      obtain ⟨_, _, _, _, he⟩ := TK.isSlice_iff hk
      obtain ⟨e, _, _, hu, _⟩ := kindOf_slice (hT.kind he (by simp))
      cases hy <;> try (cases h'; done)
      refine ⟨fun w => ?_, fun op xo yo => guard_plain (by simp) (by simp)⟩
      have : b = false := (AV.bool.inj h').symm
      subst this; exact eq_s10 9999 hu w
  case map0 =>
    have h' : cond (T.kind t).isMap (y.nilOf false false true false) AV.bad = .bool b := h
    cases hk : (T.kind t).isMap with
    | false => rw [hk] at h'; cases h'
    | true =>
      rw [hk] at h'
      obtain ⟨_, _, _, he⟩ := TK.isMap_iff hk
      obtain ⟨k, e, _, _, hu, _⟩ := kindOf_map (hT.kind he (by simp))
      cases hy <;> try (cases h'; done)
      · refine ⟨fun w => ?_, fun op xo yo => guard_plain (by simp) (by simp)⟩
        have : b = true := (AV.bool.inj h').symm
        subst this; exact eq_m00 9999 hu w
      · refine ⟨fun w => ?_, fun op xo yo => guard_plain (by simp) (by simp)⟩
        have : b = false := (AV.bool.inj h').symm
        subst this; exact eq_m01 9999 hu w
  case map =>
    cases hk : (T.kind t).isMap with
    | false => have h' : cond (T.kind t).isMap _ AV.bad = .bool b := h; rw [hk] at h'; cases h'
    | true =>
      have h' : cond (T.kind t).isMap _ AV.bad = .bool b := h
      rw [hk] at h'
      obtain ⟨_, _, _, he⟩ := TK.isMap_iff hk
      obtain ⟨k, e, _, _, hu, _⟩ := kindOf_map (hT.kind he (by simp))
      cases hy <;> try (cases h'; done)
      refine ⟨fun w => ?_, fun op xo yo => guard_plain (by simp) (by simp)⟩
      have : b = false := (AV.bool.inj h').symm
      subst this; exact eq_m10 9999 hu w
  case fn0 =>
    have h' : cond (T.kind t).isFunc (y.nilOf false false false true) AV.bad = .bool b := h
    cases hk : (T.kind t).isFunc with
    | false => rw [hk] at h'; cases h'
    | true =>
      rw [hk] at h'
      obtain ⟨_, _, _, hu⟩ := kindOf_func (hT.kind (TK.isFunc_iff hk) (by simp))
      cases hy <;> try (cases h'; done)
      · refine ⟨fun w => ?_, fun op xo yo => guard_plain (by simp) (by simp)⟩
        have : b = true := (AV.bool.inj h').symm
        subst this; exact eq_f00 9999 hu w
      · refine ⟨fun w => ?_, fun op xo yo => guard_plain (by simp) (by simp)⟩
        have : b = false := (AV.bool.inj h').symm
        subst this; exact eq_f01 9999 hu w
  case fn =>
    cases hk : (T.kind t).isFunc with
    | false => have h' : cond (T.kind t).isFunc _ AV.bad = .bool b := h; rw [hk] at h'; cases h'
    | true =>
      have h' : cond (T.kind t).isFunc _ AV.bad = .bool b := h
      rw [hk] at h'
      obtain ⟨_, _, _, hu⟩ := kindOf_func (hT.kind (TK.isFunc_iff hk) (by simp))
      cases hy <;> try (cases h'; done)
      refine ⟨fun w => ?_, fun op xo yo => guard_plain (by simp) (by simp)⟩
      have : b = false := (AV.bool.inj h').symm
      subst this; exact eq_f10 9999 hu w
  case agg cs c hcs =>
    have h' : List.casesOn (motive := fun _ => AV) (T.ty t).eqs .bad (fun _ _ => y.onAgg .bad fun ys => cellsEq (T.ty t).eqs cs ys) = .bool b := h
    rcases hT.ty t with e | e
    · rw [e] at h'; cases h'
    · rw [e] at h'
      have he : (mkTI P t).eqs = eqsOf P t := rfl
      rw [he] at h'
      cases hq : eqsOf P t with
      | nil => rw [hq] at h'; cases h'
      | cons c0 cr =>
        have h2 : y.onAgg .bad (fun ys => cellsEq (eqsOf P t) cs ys) = .bool b := by rw [hq] at h' ⊢; exact h'
        cases hy <;> try (cases h2; done)
        rename_i ds dd hds
        have h3 : cellsEq (eqsOf P t) cs ds = .bool b := h2
        unfold eqsOf at hq h3
        cases hu : P.underlying t with
        | none => rw [hu] at hq; cases hq
        | some d =>
          rw [hu] at hq h3
          cases d <;> try (cases hq; done)
          rename_i fs
          simp only at hq h3
          by_cases hs : (!P.stoodInHeld t && !P.eqGuardType P.depth t) = true
          · rw [if_pos hs] at hq h3
            simp only [Bool.and_eq_true, Bool.not_eq_true'] at hs
            cases hff : flatFields P fs.toList 0 with
            | none => rw [hff] at hq; cases hq
            | some codes =>
              rw [hff] at h3
              have h4 : cellsEq codes cs ds = .bool b := h3
              have hfo : P.fieldsOf t = fs := by simp [Program.fieldsOf, hu]
              refine ⟨fun w => ?_, fun op xo yo w => run_eqGuard_agg w op t xo yo c dd hs.2⟩
              have := run_equalIn_struct (P := P) w 9999 t c dd (by rw [hfo]; exact hu) hs.1
              show (Op.equalIn 10000 t (.agg c) (.agg dd)).run P w = _
              rw [this, hfo]
              exact cellsEq_sound (d := 9998) fs.toList codes 0 cs ds b hff (by simpa using hcs) (by simpa using hds) h4
          · rw [if_neg hs] at hq; cases hq
  all_goals cases h

theorem eqOp_sound {op : BinOp} {t : TypeId} {xo yo : Operand} {x' y' : Value} {r : AV} (hr : ∀ b, r = .bool b → EqTo P t x' y' b ∧ Guarded P op t xo yo x' y')
    (he : binOp .eql t x' y' = (do pure (.bool (← Op.equal t x' y')))) (hn : binOp .neq t x' y' = (do pure (.bool (!(← Op.equal t x' y'))))) :
    eqOp op r = .bad ∨ Yields P m (do eqGuard op t xo yo x' y'; binOp op t x' y') (eqOp op r) := by
  cases r
  case bool b =>
    obtain ⟨h1, h2⟩ := hr b rfl
    cases op <;> try (exact .inl rfl)
    · refine .inr ⟨.bool b, fun w => ?_, .bool _⟩
      rw [he]; simp [h2 w, h1 w]
    · refine .inr ⟨.bool (!b), fun w => ?_, .bool _⟩
      rw [hn]; simp [h2 w, h1 w]
  all_goals (cases op <;> exact .inl rfl)

theorem fcmp_sound {op : BinOp} {t : TypeId} {k : FloatKind} {a b : Nat} (hc : isCmp op = true) : fcmpA op k a b = .bad ∨ Yields P m (binOp op t (.float k a) (.float k b)) (fcmpA op k a b) := by
  have hk : ¬ (k ≠ k) := fun h => h rfl
  cases op <;> (first | (cases hc; done) | (refine .inr ?_; simp only [binOp, hk, if_false]; exact .pure' (.bool _)))

/-- An operator. -/
theorem binA_sound (hT : Fits T P) {op : BinOp} {t : TypeId} {xo yo : Operand} {x y : AV} {x' y' : Value} (hx : VR m x x') (hy : VR m y y') :
    binA T op t x y = .bad ∨ Yields P m (do eqGuard op t xo yo x' y'; binOp op t x' y') (binA T op t x y) := by
  have strip : ∀ {v : AV}, Guarded P op t xo yo x' y' → Yields P m (binOp op t x' y') v → Yields P m (do eqGuard op t xo yo x' y'; binOp op t x' y') v := by
    rintro v hg ⟨v', h1, h2⟩
    exact ⟨v', fun w => by simp [hg w, h1 w], h2⟩
  have viaEq : binA T op t x y = eqOp op (eqA T t x y) → binOp .eql t x' y' = (do pure (.bool (← Op.equal t x' y'))) → binOp .neq t x' y' = (do pure (.bool (!(← Op.equal t x' y')))) →
      binA T op t x y = .bad ∨ Yields P m (do eqGuard op t xo yo x' y'; binOp op t x' y') (binA T op t x y) := by
    intro h1 h2 h3
    rw [h1]
    exact eqOp_sound (fun b hb => ⟨(eqA_sound hT hx hy hb).1, (eqA_sound hT hx hy hb).2 _ _ _⟩) h2 h3
  cases hx
  case bad => exact .inl (by show eqOp op .bad = .bad; cases op <;> rfl)
  case int k a =>
    cases hy <;> try (exact .inl rfl)
    rename_i k2 b
    show Option.casesOn (motive := fun _ => AV) (shiftA op) (cond (keq k k2) (intA op k a b) .bad) (fun f => f k a b) = .bad ∨ Yields P m _ (Option.casesOn (motive := fun _ => AV) (shiftA op) (cond (keq k k2) (intA op k a b) .bad) (fun f => f k a b))
    cases hs : shiftA op with
    | some f =>
      have hop : (op = .shl ∧ f = shlA) ∨ (op = .shr ∧ f = shrA) := by
        cases op <;> first | (cases hs; done) | exact .inl ⟨rfl, (Option.some.inj hs).symm⟩ | exact .inr ⟨rfl, (Option.some.inj hs).symm⟩
      rcases hop with ⟨rfl, rfl⟩ | ⟨rfl, rfl⟩
      · rcases shl_sound (P := P) (m := m) k a k2 b t with h | h
        · exact .inl h
        · exact .inr (strip (guard_plain (by simp) (by simp)) h)
      · rcases shr_sound (P := P) (m := m) k a k2 b t with h | h
        · exact .inl h
        · exact .inr (strip (guard_plain (by simp) (by simp)) h)
    | none =>
      show cond (keq k k2) (intA op k a b) .bad = _ ∨ Yields P m _ (cond (keq k k2) (intA op k a b) .bad)
      rw [keq_eq]
      by_cases hk : k = k2
      · subst hk; rw [decide_eq_true rfl]
        rcases intA_sound (P := P) (m := m) op k a b t hs with h | h
        · exact .inl h
        · exact .inr (strip (guard_plain (by simp) (by simp)) h)
      · rw [decide_eq_false hk]; exact .inl rfl
  case float k a =>
    cases hy <;> try (exact .inl rfl)
    rename_i k2 b
    show cond (fkeq k k2) (cond (isCmp op) (fcmpA op k a b) .bad) .bad = _ ∨ Yields P m _ (cond (fkeq k k2) (cond (isCmp op) (fcmpA op k a b) .bad) .bad)
    rw [fkeq_eq]
    by_cases hk : k = k2
    · subst hk; rw [decide_eq_true rfl]
      cases hc : isCmp op with
      | false => exact .inl rfl
      | true =>
        rcases fcmp_sound (P := P) (m := m) (t := t) (k := k) (a := a) (b := b) hc with h | h
        · exact .inl h
        · exact .inr (strip (guard_plain (by simp) (by simp)) h)
    · rw [decide_eq_false hk]; exact .inl rfl
  case str s =>
    cases hy <;> try (exact .inl rfl)
    rename_i s2
    rcases strA_sound (P := P) (m := m) op s s2 t with h | h
    · exact .inl h
    · exact .inr (strip (guard_plain (by simp) (by simp)) h)
  case tup => exact .inl rfl
  case bool a => exact viaEq rfl (by cases hy <;> first | rfl | (rename_i v; cases v <;> rfl)) (by cases hy <;> first | rfl | (rename_i v; cases v <;> rfl))
  case ptr0 =>
    cases hy <;> first | exact viaEq rfl rfl rfl | (refine .inl ?_; show eqOp op (cond (T.kind t).isPointer _ .bad) = .bad; cases (T.kind t).isPointer <;> cases op <;> rfl)
  case ptr o bb N off hm =>
    cases hy <;> first | exact viaEq rfl rfl rfl | (refine .inl ?_; show eqOp op (cond (T.kind t).isPointer _ .bad) = .bad; cases (T.kind t).isPointer <;> cases op <;> rfl)
  case sl0 =>
    cases hy <;> first | exact viaEq rfl rfl rfl | (refine .inl ?_; show eqOp op (cond (T.kind t).isSlice _ .bad) = .bad; cases (T.kind t).isSlice <;> cases op <;> rfl)
  case sl =>
    cases hy <;> first | exact viaEq rfl rfl rfl | (refine .inl ?_; show eqOp op (cond (T.kind t).isSlice _ .bad) = .bad; cases (T.kind t).isSlice <;> cases op <;> rfl)
  case map0 =>
    cases hy <;> first | exact viaEq rfl rfl rfl | (refine .inl ?_; show eqOp op (cond (T.kind t).isMap _ .bad) = .bad; cases (T.kind t).isMap <;> cases op <;> rfl)
  case map =>
    cases hy <;> first | exact viaEq rfl rfl rfl | (refine .inl ?_; show eqOp op (cond (T.kind t).isMap _ .bad) = .bad; cases (T.kind t).isMap <;> cases op <;> rfl)
  case fn0 =>
    cases hy <;> first | exact viaEq rfl rfl rfl | (refine .inl ?_; show eqOp op (cond (T.kind t).isFunc _ .bad) = .bad; cases (T.kind t).isFunc <;> cases op <;> rfl)
  case fn =>
    cases hy <;> first | exact viaEq rfl rfl rfl | (refine .inl ?_; show eqOp op (cond (T.kind t).isFunc _ .bad) = .bad; cases (T.kind t).isFunc <;> cases op <;> rfl)
  case agg cs c hcs =>
    cases hy <;> first | exact viaEq rfl rfl rfl | (refine .inl ?_; show eqOp op (List.casesOn (motive := fun _ => AV) (T.ty t).eqs .bad _) = .bad; cases (T.ty t).eqs <;> cases op <;> rfl)

theorem unA_sound {op : UnOp} {x : AV} {x' : Value} (hx : VR m x x') : unA op x = .bad ∨ Yields P m (Op.unary op x') (unA op x) := by
  cases op
  case neg =>
    cases hx <;> try (exact .inl rfl)
    rename_i k n
    refine .inr ?_
    show Yields P m _ (.int k (fwrap k (0 - n))); rw [fwrap_eq]; exact .pure' (.int _ _)
  case xor =>
    cases hx <;> try (exact .inl rfl)
    rename_i k n
    show bitsSlow .xor k (if k.signed then -1 else k.max) n = _ ∨ Yields P m _ (bitsSlow .xor k (if k.signed then -1 else k.max) n)
    rcases bitsSlow_eq .xor k (if k.signed then -1 else k.max) n with h | ⟨r, h1, h2⟩
    · exact .inl h
    · rw [h1]; refine .inr ?_
      have : Op.unary .xor (.int k n) = Op.intBits .xor k (if k.signed then -1 else k.max) n := rfl
      rw [this, h2]; exact .pure' (.int _ _)
  case not =>
    cases hx <;> try (exact .inl rfl)
    exact .inr (.pure' (.bool _))
  case plus => exact .inl rfl
end
end Go.Ai
