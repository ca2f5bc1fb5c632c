/- Types; texts; comparisons; the operators whole. -/
import Derived.Test.YtmbohkdfdolkkaaGreatDoorAiO1
import Derived.Laws.StructEq
import Derived.Laws.Small
namespace Go.Ai
open Go

/-- A table that is the program's. -/
structure Fits (T : Tab) (P : Program) : Prop where
  ty : ∀ t, T.ty t = TI.no ∨ T.ty t = mkTI P t
  fn : ∀ f nt rs c, T.fn f = .some nt rs c → ∃ fn, P.funcs[f]? = some fn ∧ fn.ntmps = nt ∧ fn.results.toList = rs ∧ fn.body = some c ∧ (fn.name == "runtime.NumGoroutine") = false
  bits : ∀ f to, T.fn f = .bits to → ∀ (args : Array Value) (w : World), (callFunc f args).run P w = ((cond to (Extern.MathFloatBits.float64bits args) (Extern.MathFloatBits.float64frombits args)).run P w).andThen fun v w' => .ok (.value v) w'

section types
variable {P : Program} {T : Tab}

theorem Fits.kind (hT : Fits T P) {t : TypeId} {K : TK} (h : T.kind t = K) (hK : K ≠ .none) : kindOf P t = K := by
  rcases hT.ty t with e | e
  · unfold Tab.kind at h; rw [e] at h; exact absurd h.symm hK
  · unfold Tab.kind at h; rw [e] at h; exact h
theorem Fits.ofKind (hT : Fits T P) {t : TypeId} (h : (T.kind t).known = true) : T.ty t = mkTI P t := by
  rcases hT.ty t with e | e
  · unfold Tab.kind at h; rw [e] at h; cases h
  · exact e

theorem underlying_info {t : TypeId} {d : TypeDesc} (h : P.underlying t = some d) : ∃ i, P.info? t = some i := by
  unfold Program.underlying at h
  cases hi : P.info? t with
  | none => rw [hi] at h; cases h
  | some i => exact ⟨i, rfl⟩

theorem known_underlying {t : TypeId} (h : (kindOf P t).known = true) : ∃ d, P.underlying t = some d := by
  unfold kindOf at h
  cases hu : P.underlying t with
  | none => rw [hu] at h; cases h
  | some d => exact ⟨d, rfl⟩

theorem kindOf_bool {t : TypeId} (h : kindOf P t = .bool) : P.underlying t = some .bool := by
  unfold kindOf at h; repeat' split at h
  all_goals first | assumption | (cases h; done)
theorem kindOf_int {t : TypeId} {k : IntKind} (h : kindOf P t = .int k) : P.underlying t = some (.int k) := by
  unfold kindOf at h; repeat' split at h
  all_goals first | (cases h; assumption) | (cases h; done)
theorem kindOf_string {t : TypeId} (h : kindOf P t = .string) : P.underlying t = some .string := by
  unfold kindOf at h; repeat' split at h
  all_goals first | assumption | (cases h; done)
theorem kindOf_pointer {t e : TypeId} (h : kindOf P t = .pointer e) : P.underlying t = some (.pointer e) := by
  unfold kindOf at h; repeat' split at h
  all_goals first | (cases h; assumption) | (cases h; done)
theorem kindOf_func {t : TypeId} (h : kindOf P t = .func) : ∃ a b c, P.underlying t = some (.func a b c) := by
  unfold kindOf at h; repeat' split at h
  all_goals first | (exact ⟨_, _, _, by assumption⟩) | (cases h; done)
theorem kindOf_slice {t : TypeId} {es eb : Nat} {zc : List AV} {u8 : Bool} (h : kindOf P t = .slice es eb zc u8) :
    ∃ e i z, P.underlying t = some (.slice e) ∧ P.info? e = some i ∧ i.size = es ∧ i.bytes = eb ∧ i.zero = some z ∧ zc = kindOf.cellsC (ofValue z) ∧ (u8 = true → P.underlying e = some (.int .u8)) := by
  unfold kindOf at h
  split at h
  case h_6 e hu =>
    split at h
    case h_1 i hi =>
      split at h
      case h_1 z hz =>
        cases h
        refine ⟨e, i, z, hu, hi, rfl, rfl, hz, rfl, fun h8 => ?_⟩
        split at h8
        · assumption
        · cases h8
      case h_2 => cases h
    case h_2 => cases h
  all_goals (repeat' split at h) <;> cases h
theorem kindOf_array {t : TypeId} {n es : Nat} {ag : Bool} (h : kindOf P t = .array n es ag) :
    ∃ e i d, P.underlying t = some (.array n e) ∧ P.info? e = some i ∧ i.size = es ∧ P.underlying e = some d ∧ ag = kindOf.isAggC P e := by
  unfold kindOf at h
  split at h
  case h_7 m e hu =>
    split at h
    case isTrue hk =>
      cases h
      obtain ⟨d, hd⟩ := Option.isSome_iff_exists.1 hk
      obtain ⟨i, hi⟩ := underlying_info hd
      exact ⟨e, i, d, hu, hi, by simp [kindOf.sizeC, hi], hd, rfl⟩
    case isFalse => cases h
  all_goals (repeat' split at h) <;> cases h
theorem kindOf_map {t : TypeId} {kint kstr : Bool} {zv : AV} (h : kindOf P t = .map kint kstr zv) :
    ∃ k e i z, P.underlying t = some (.map k e) ∧ P.info? e = some i ∧ i.zero = some z ∧ zv = ofValue z ∧ (kint = true → ∃ q, P.underlying k = some (.int q)) ∧ (kstr = true → P.underlying k = some .string) := by
  unfold kindOf at h
  split at h
  case h_8 k e hu =>
    split at h
    case h_1 i hi =>
      split at h
      case h_1 z hz =>
        cases h
        refine ⟨k, e, i, z, hu, hi, hz, rfl, fun h8 => ?_, fun h8 => ?_⟩
        · split at h8
          · exact ⟨_, by assumption⟩
          · cases h8
        · split at h8
          · assumption
          · cases h8
      case h_2 => cases h
    case h_2 => cases h
  all_goals (repeat' split at h) <;> cases h
theorem kindOf_struct {t : TypeId} {l : List (Nat × Nat × Bool)} (h : kindOf P t = .struct l) :
    ∃ fs, P.underlying t = some (.struct fs) ∧ l = fs.toList.map (fun f => (f.offset, kindOf.sizeC P f.type, kindOf.isAggC P f.type)) ∧ ∀ f ∈ fs.toList, ∃ d, P.underlying f.type = some d := by
  unfold kindOf at h
  split at h
  case h_9 fs hu =>
    split at h
    case isTrue hk =>
      cases h
      rw [List.all_eq_true] at hk
      exact ⟨fs, hu, rfl, fun f hf => Option.isSome_iff_exists.1 (hk f hf)⟩
    case isFalse => cases h
  all_goals (repeat' split at h) <;> cases h

theorem TK.isBool_iff {k : TK} (h : k.isBool = true) : k = .bool := by cases k <;> first | rfl | cases h
theorem TK.isString_iff {k : TK} (h : k.isString = true) : k = .string := by cases k <;> first | rfl | cases h
theorem TK.isFunc_iff {k : TK} (h : k.isFunc = true) : k = .func := by cases k <;> first | rfl | cases h
theorem TK.isPointer_iff {k : TK} (h : k.isPointer = true) : ∃ e, k = .pointer e := by cases k <;> first | exact ⟨_, rfl⟩ | cases h
theorem TK.isSlice_iff {k : TK} (h : k.isSlice = true) : ∃ a b c d, k = .slice a b c d := by cases k <;> first | exact ⟨_, _, _, _, rfl⟩ | cases h
theorem TK.isMap_iff {k : TK} (h : k.isMap = true) : ∃ a b c, k = .map a b c := by cases k <;> first | exact ⟨_, _, _, rfl⟩ | cases h

theorem isAggC_run {t : TypeId} {d : TypeDesc} (h : P.underlying t = some d) (w : World) : (isAgg t).run P w = .ok (kindOf.isAggC P t) w := by
  unfold isAgg kindOf.isAggC
  cases d <;> simp [run_underlying h, h]
end types

section
variable {P : Program} {T : Tab} {m : Mp}

theorem seq_eq (a b : List UInt8) : seq a b = (a == b) := by
  induction a generalizing b with
  | nil => cases b <;> rfl
  | cons x a ih =>
    cases b with
    | nil => rfl
    | cons y b =>
      show cond (Nat.beq x.toNat y.toNat) (seq a b) false = _
      rw [ih, List.cons_beq_cons]
      by_cases h : x = y
      · subst h; rw [Nat.beq_refl]; simp
      · have hb : (x == y) = false := by simpa using h
        rw [beq_f (fun e => h (UInt8.toNat_inj.1 e)), hb]; rfl

theorem strA_sound (op : BinOp) (a b : ByteArray) (t : TypeId) : strA op a.data.toList b.data.toList = .bad ∨ Yields P m (binOp op t (.string a) (.string b)) (strA op a.data.toList b.data.toList) := by
  cases op
  case add =>
    show cond (Nat.ble (Nat.add (llen a.data.toList) (llen b.data.toList)) 9223372036854775807) _ _ = _ ∨ Yields P m _ (cond (Nat.ble (Nat.add (llen a.data.toList) (llen b.data.toList)) 9223372036854775807) _ _)
    rw [llen_eq, llen_eq, lapp_eq, ble_dec]
    by_cases h : Nat.add a.data.toList.length b.data.toList.length ≤ 9223372036854775807
    · rw [decide_eq_true h]
      refine .inr ?_
      have hs : a.data.toList.length + b.data.toList.length ≤ 9223372036854775807 := h
      have hs2 : ¬ (((a.size + b.size : Nat) : Int) > IntKind.i64.max) := by
        have e1 : a.size = a.data.toList.length := (Array.length_toList (xs := a.data)).symm
        have e2 : b.size = b.data.toList.length := (Array.length_toList (xs := b.data)).symm
        have : IntKind.i64.max = 9223372036854775807 := by decide
        rw [this, e1, e2]; omega
      refine ⟨.string (a ++ b), fun w => ?_, ?_⟩
      · simp only [binOp_string_add, Op.stringOp, hs2, if_false]; rfl
      · have : (a ++ b).data.toList = a.data.toList ++ b.data.toList := by simp
        show VR m (.str (a.data.toList ++ b.data.toList)) _
        rw [← this]; exact .str _
    · rw [decide_eq_false h]; exact .inl rfl
  case eql => refine .inr ?_; show Yields P m _ (.bool (seq _ _)); rw [seq_eq, binOp_string_eql, ByteArray.toList_eq, ByteArray.toList_eq]; exact .pure (.bool _)
  case neq => refine .inr ?_; show Yields P m _ (.bool (not (seq _ _))); rw [seq_eq, binOp_string_neq, ByteArray.toList_eq, ByteArray.toList_eq]; exact .pure (.bool _)
  case lss => refine .inr ?_; show Yields P m _ (.bool (Op.bytesLess _ _)); rw [binOp_string_lss, ByteArray.toList_eq, ByteArray.toList_eq]; exact .pure (.bool _)
  case leq =>
    refine .inr ?_; show Yields P m _ (.bool (or (Op.bytesLess _ _) (seq _ _))); rw [seq_eq]
    have : binOp .leq t (.string a) (.string b) = Sem.pure (.bool (Op.bytesLess a.toList b.toList || a.toList == b.toList)) := by simp [binOp, Op.stringOp]; rfl
    rw [this, ByteArray.toList_eq, ByteArray.toList_eq]; exact .pure' (.bool _)
  case gtr =>
    refine .inr ?_; show Yields P m _ (.bool (not (or (Op.bytesLess _ _) (seq _ _)))); rw [seq_eq]
    have : binOp .gtr t (.string a) (.string b) = Sem.pure (.bool (!(Op.bytesLess a.toList b.toList || a.toList == b.toList))) := by simp [binOp, Op.stringOp]; rfl
    rw [this, ByteArray.toList_eq, ByteArray.toList_eq]; exact .pure' (.bool _)
  case geq =>
    refine .inr ?_; show Yields P m _ (.bool (not (Op.bytesLess _ _)))
    have : binOp .geq t (.string a) (.string b) = Sem.pure (.bool (!(Op.bytesLess a.toList b.toList))) := by simp [binOp, Op.stringOp]; rfl
    rw [this, ByteArray.toList_eq, ByteArray.toList_eq]; exact .pure' (.bool _)
  all_goals exact .inl rfl

theorem onBool_bad {v : AV} {f : Bool → AV} : v.onBool .bad f = .bad ∨ ∃ b, v = .bool b := by cases v <;> first | exact .inl rfl | exact .inr ⟨_, rfl⟩
theorem onInt_bad {v : AV} {f : IntKind → Int → AV} : v.onInt .bad f = .bad ∨ ∃ k n, v = .int k n := by cases v <;> first | exact .inl rfl | exact .inr ⟨_, _, rfl⟩
theorem onStr_bad {v : AV} {f : List UInt8 → AV} : v.onStr .bad f = .bad ∨ ∃ s, v = .str s := by cases v <;> first | exact .inl rfl | exact .inr ⟨_, rfl⟩
theorem onAgg_bad {v : AV} {f : List AV → AV} : v.onAgg .bad f = .bad ∨ ∃ s, v = .agg s := by cases v <;> first | exact .inl rfl | exact .inr ⟨_, rfl⟩

theorem cond_beq (a b : Bool) : cond a b (not b) = (a == b) := by cases a <;> cases b <;> rfl

/-- Two cells that are compared. -/
theorem cellEq_sound {d : Nat} {t : TypeId} {x y : AV} {x' y' : Value} (hx : VR m x x') (hy : VR m y y') {b : Bool} (h : cellEq x y = .bool b) {td : TypeDesc} (ht : P.underlying t = some td)
    (hc : match td with | .bool => codeOf x = 0 | .int _ => codeOf x = 1 | .float _ => codeOf x = 2 | .string => codeOf x = 3 | _ => False) (w : World) :
    (Op.equalIn (d + 1) t x' y').run P w = .ok b w := by
  cases hx
  case bool a =>
    cases hy <;> try (cases h; done)
    rename_i a2
    have : b = (a == a2) := by have := AV.bool.inj h; rw [cond_beq] at this; exact this.symm
    subst this
    cases td <;> simp [codeOf] at hc
    exact run_equalIn_bool w d t a a2 ht
  case int k n =>
    cases hy <;> try (cases h; done)
    rename_i k2 n2
    have h' : cond (keq k k2) (AV.bool (ieq n n2)) .bad = .bool b := h
    rw [keq_eq] at h'
    by_cases hk : k = k2
    · rw [decide_eq_true hk, ieq_eq] at h'
      have : b = decide (n = n2) := (AV.bool.inj h').symm
      subst this; subst hk
      cases td <;> simp [codeOf] at hc
      rw [run_equalIn_int w d t k _ n n2 ht]; rfl
    · rw [decide_eq_false hk] at h'; cases h'
  case float k n =>
    cases hy <;> try (cases h; done)
    rename_i k2 n2
    have h' : cond (fkeq k k2) (AV.bool (Op.floatEq k n n2)) .bad = .bool b := h
    rw [fkeq_eq] at h'
    by_cases hk : k = k2
    · rw [decide_eq_true hk] at h'
      have : b = Op.floatEq k n n2 := (AV.bool.inj h').symm
      subst this; subst hk
      cases td <;> simp [codeOf] at hc
      simp [Op.equalIn, run_underlying ht]
    · rw [decide_eq_false hk] at h'; cases h'
  case str s =>
    cases hy <;> try (cases h; done)
    rename_i s2
    have : b = (s.data.toList == s2.data.toList) := by have := AV.bool.inj h; rw [seq_eq] at this; exact this.symm
    subst this
    cases td <;> simp [codeOf] at hc
    rw [run_equalIn_string w d t s s2 ht, ByteArray.toList_eq, ByteArray.toList_eq]
  all_goals cases h

theorem part_plain {cs : Array Value} {t : TypeId} {off : Nat} {v : Value} {d : TypeDesc} (ht : P.underlying t = some d) (hd : kindOf.isAggC P t = false) (h : cs[off]? = some v) (w : World) : (part t cs off).run P w = .ok v w := by
  unfold part
  simp [isAggC_run ht, hd, h]

theorem cellsEq_sound {d : Nat} {xs ys : Array Value} {w : World} : ∀ (fs : List Field) (codes : List Nat) (i : Nat) (as bs : List AV) (b : Bool), flatFields P fs i = some codes →
    VRs m as (xs.toList.drop i) → VRs m bs (ys.toList.drop i) → cellsEq codes as bs = .bool b → (Op.eqFields (d + 1) xs ys fs).run P w = .ok b w := by
  intro fs
  induction fs with
  | nil =>
    intro codes i as bs b hf hx hy h
    simp [flatFields] at hf; subst hf
    have : b = true := by
      cases as with
      | cons _ _ => cases h
      | nil => cases bs with
        | cons _ _ => cases h
        | nil => exact (AV.bool.inj h).symm
    subst this
    simp [Op.eqFields]
  | cons f fs ih =>
    intro codes i as bs b hf hx hy h
    unfold flatFields at hf
    by_cases hc : (f.name != "_" && f.offset == i) = true
    · rw [if_pos hc] at hf
      simp only [Bool.and_eq_true, bne_iff_ne, ne_eq, beq_iff_eq] at hc
      obtain ⟨hname, rfl⟩ := hc
      obtain ⟨code, hcode, hrest⟩ := Option.bind_eq_some_iff.1 hf
      obtain ⟨codes', hcodes, rfl⟩ := Option.map_eq_some_iff.1 hrest
      cases as with
      | nil => cases h
      | cons x as =>
        cases bs with
        | nil => cases h
        | cons y bs =>
          have h' : cond (Nat.beq (codeOf x) code) ((cellEq x y).onBool .bad fun b => cond b (cellsEq codes' as bs) (.bool false)) .bad = .bool b := h
          cases hb : Nat.beq (codeOf x) code with
          | false => rw [hb] at h'; cases h'
          | true =>
            rw [hb] at h'
            have hcx := Nat.eq_of_beq_eq_true hb
            have h2 : (cellEq x y).onBool .bad (fun b => cond b (cellsEq codes' as bs) (.bool false)) = .bool b := h'
            rcases (onBool_bad (v := cellEq x y) (f := fun b => cond b (cellsEq codes' as bs) (.bool false))) with hbad | ⟨r, hr⟩
            · rw [hbad] at h2; cases h2
            · rw [hr] at h2
              obtain ⟨x', hx1, hx2⟩ := hx.get (i := 0) (a := x) rfl
              obtain ⟨y', hy1, hy2⟩ := hy.get (i := 0) (a := y) rfl
              simp at hx1 hy1
              cases hu : P.underlying f.type with
              | none => rw [hu] at hcode; cases hcode
              | some td =>
                have hag : kindOf.isAggC P f.type = false := by
                  unfold kindOf.isAggC; rw [hu] at hcode ⊢
                  cases td <;> first | rfl | (simp at hcode; done)
                have hr' := cellEq_sound (P := P) (d := d) (t := f.type) hx2 hy2 hr hu (by rw [hu] at hcode; cases td <;> simp at hcode <;> simp [hcx, hcode]) w
                have px := part_plain (P := P) hu hag hx1 w
                have py := part_plain (P := P) hu hag hy1 w
                simp only [Op.eqFields, hname, ne_eq, not_false_eq_true, if_true, Sem.run_bind, px, py, hr', Result.andThen_ok]
                cases r with
                | false => have : b = false := (AV.bool.inj h2).symm
                           subst this; simp
                | true =>
                  simp
                  refine ih codes' (f.offset + 1) as bs b hcodes ?_ ?_ h2
                  · have := hx.drop 1; simpa [List.drop_drop, Nat.add_comm] using this
                  · have := hy.drop 1; simpa [List.drop_drop, Nat.add_comm] using this
    · rw [if_neg hc] at hf; cases hf
end
end Go.Ai
