/- The check sum of texts (package check, Sum): what the machine comes to at it. -/
import Derived.Test.YtmbohkdfdolkkaaGreatDoorAiW
namespace Go.Ai
open Go
noncomputable def crcBit (x : Nat) : Nat := cond (Nat.beq (Nat.land x 1) 1) (Nat.xor (Nat.shiftRight x 1) 3988292384) (Nat.shiftRight x 1)
noncomputable def crcBits (n : Nat) : Nat → Nat := Nat.rec (fun x => x) (fun _ ih x => ih (crcBit x)) n
/-- The sum's state behind bytes (each state is reckoned ahead of the next one). -/
noncomputable def crcL (l : List UInt8) : Nat → Nat := List.rec (fun x => x) (fun b _ ih x => cond (Nat.ble x 4294967295) (ih (crcBits 8 (Nat.xor x b.toNat))) 0) l
noncomputable def crcS (l : List (List UInt8)) : Nat → Nat := List.rec (fun x => x) (fun s _ ih x => ih (crcL s x)) l

def cBit (u32 i64 u64 : TypeId) : Code := (.seq (.region 10 #[⟨(some 26), .binOp .lss i64 (.tmp 25) (.const (.int .i64 (8))) i64, 0, "", #[], none⟩] false) (.seq (.cond (.tmp 26) .skip (.exit 4)) (.seq (.block 5 (.seq (.region 11 #[⟨(some 27), .move (.tmp 3), 0, "", #[], none⟩, ⟨(some 28), .binOp .and u32 (.tmp 27) (.const (.int .u32 (1))) u32, 0, "", #[], none⟩, ⟨(some 7), .assign (.tmp 28), 0, "", #[], none⟩] false) (.seq (.region 12 #[⟨(some 29), .move (.tmp 3), 0, "", #[], none⟩, ⟨(some 30), .binOp .shr u32 (.tmp 29) (.const (.int .u64 (1))) u64, 0, "", #[], none⟩, ⟨(some 3), .assign (.tmp 30), 0, "", #[], none⟩] false) (.seq (.region 13 #[⟨(some 31), .move (.tmp 7), 0, "", #[], none⟩, ⟨(some 32), .binOp .eql u32 (.tmp 31) (.const (.int .u32 (1))) u32, 0, "", #[], none⟩] false) (.cond (.tmp 32) (.region 14 #[⟨(some 33), .move (.tmp 3), 0, "", #[], none⟩, ⟨(some 34), .binOp .xor u32 (.tmp 33) (.const (.int .u32 (3988292384))) u32, 0, "", #[], none⟩, ⟨(some 3), .assign (.tmp 34), 0, "", #[], none⟩] false) .skip))))) (.region 15 #[⟨(some 35), .binOp .add i64 (.tmp 25) (.const (.int .i64 (1))) i64, 0, "", #[], none⟩, ⟨(some 25), .move (.tmp 35), 0, "", #[], none⟩] false))))

def Full (n : Nat) (ρ : Env) : Prop := ∀ i, i < n → ρ.has i = true
theorem Full.set {n : Nat} {ρ : Env} (h : Full n ρ) (i : Nat) (v : AV) : Full n (ρ.set i v) := fun j hj => by rw [has_set]; exact h j hj
theorem Full.get_set {n : Nat} {ρ : Env} (h : Full n ρ) {i j : Nat} {v : AV} (hi : i < n) : (ρ.set i v).get undefA j = if j = i then v else ρ.get undefA j := by
  rw [Go.Ai.get_set]; simp [h i hi]

theorem shr_lt {x : Nat} (h : x < 4294967296) : Nat.shiftRight x 1 < 4294967296 := by
  have : x >>> 1 = x / 2 := by rw [Nat.shiftRight_succ, Nat.shiftRight_zero]
  show x >>> 1 < _
  omega
theorem crcBit_lt {x : Nat} (h : x < 4294967296) : crcBit x < 4294967296 := by
  unfold crcBit
  cases Nat.beq (Nat.land x 1) 1 with
  | true => exact Nat.xor_lt_two_pow (n := 32) (shr_lt h) (by decide)
  | false => exact shr_lt h

variable {T : Tab} {call : Caller} {rounds : Nat} {draw : List Oper → Env → Heap → ER} {H : Heap}

theorem set40 {ρ : Env} (h : Full 40 ρ) (i : Nat) (v : AV) : Full 40 (ρ.set i v) := h.set i v
theorem get40 {ρ : Env} (h : Full 40 ρ) {i j : Nat} {v : AV} (hi : i < 40) : (ρ.set i v).get undefA j = if j = i then v else ρ.get undefA j := h.get_set hi
theorem ofV_int (k : IntKind) (n : Int) : ofValue (.int k n) = .int k n := rfl
theorem ofNat_lss (a : Nat) (n : Nat) : (decide (Int.ofNat a < (OfNat.ofNat n : Int))) = decide (a < n) := by
  congr 1
  exact propext ⟨fun h => by have : (a : Int) < (n : Int) := h; omega, fun h => by show (a : Int) < (n : Int); omega⟩

theorem bit_step {u32 i64 u64 : TypeId} {x i : Nat} (hx : x < 4294967296) (hi : i < 8) {ρ : Env} (hs : Full 40 ρ) (h3 : ρ.get undefA 3 = .int .u32 (.ofNat x)) (h25 : ρ.get undefA 25 = .int .i64 (.ofNat i)) (Q : ER → Prop)
    (hQ : ∀ ρ', Full 40 ρ' → ρ'.get undefA 3 = .int .u32 (.ofNat (crcBit x)) → ρ'.get undefA 25 = .int .i64 (.ofNat (i + 1)) → (∀ t, t < 25 → t ≠ 3 → t ≠ 7 → ρ'.get undefA t = ρ.get undefA t) → Q (.normal ρ' H)) :
    Q (execA T call rounds draw (cBit u32 i64 u64) ρ H) := by
  have b8 : binA T .lss i64 (.int .i64 (.ofNat i)) (.int .i64 8) = .bool true := by rw [int_lss]; exact congrArg AV.bool (decide_eq_true (by show (i : Int) < 8; omega))
  have ba : binA T .and u32 (.int .u32 (.ofNat x)) (.int .u32 1) = .int .u32 (.ofNat (Nat.land x 1)) := int_and (b := 1) hx (by decide)
  have bs : binA T .shr u32 (.int .u32 (.ofNat x)) (.int .u64 1) = .int .u32 (.ofNat (Nat.shiftRight x 1)) := int_shr (n := 1) (by decide)
  have be : binA T .eql u32 (.int .u32 (.ofNat (Nat.land x 1))) (.int .u32 1) = .bool (Nat.beq (Nat.land x 1) 1) := by
    rw [int_eql]; exact congrArg AV.bool (by rw [Bool.eq_iff_iff, decide_eq_true_iff, beq_iff]; exact ⟨fun h => Int.ofNat.inj h, fun h => congrArg Int.ofNat h⟩)
  have bx : binA T .xor u32 (.int .u32 (.ofNat (Nat.shiftRight x 1))) (.int .u32 3988292384) = .int .u32 (.ofNat (Nat.xor (Nat.shiftRight x 1) 3988292384)) := int_xor (b := 3988292384) (shr_lt hx) (by decide)
  have bi : binA T .add i64 (.int .i64 (.ofNat i)) (.int .i64 1) = .int .i64 (.ofNat (i + 1)) := int_add (b := 1) (by show i + 1 < 9223372036854775808; omega)
  have fr : ∀ (ρ' : Env), Full 40 ρ' → ∀ {j : Nat} {v : AV}, j < 40 → (∀ t, t < 25 → t ≠ 3 → t ≠ 7 → ρ'.get undefA t = ρ.get undefA t) → (25 ≤ j ∨ j = 3 ∨ j = 7) → ∀ t, t < 25 → t ≠ 3 → t ≠ 7 → (ρ'.set j v).get undefA t = ρ.get undefA t := by
    intro ρ' hs' j v hj h hj' t h1 h2 h3
    rw [hs'.get_set hj, if_neg (by omega)]; exact h t h1 h2 h3
  unfold cBit
  cases hb : Nat.beq (Nat.land x 1) 1 with
  | true =>
    rw [hb] at be
    simp (maxDischargeDepth := 60) only [exec_seq, exec_region, exec_cond, exec_block, exec_skip, ops_cons, ops_nil, op_bin, op_move, op_assign, ev_tmp, ev_const, ofV_int, h25, b8, of_bool, of_int, give_val, orThen_val, put_some, andThen_normal, outOf_normal, hs, get40, set40, onBool_bool, Bool.cond_true, h3, ba, bs, be, bx, bi, Nat.reduceLT, Nat.reduceEqDiff, if_true, if_false]
    refine hQ _ ?_ ?_ ?_ ?_
    · simp (maxDischargeDepth := 60) only [hs, set40]
    · have e : crcBit x = Nat.xor (Nat.shiftRight x 1) 3988292384 := by unfold crcBit; rw [hb]; rfl
      simp (maxDischargeDepth := 60) only [hs, get40, set40, Nat.reduceLT, Nat.reduceEqDiff, if_true, if_false, e]
    · simp (maxDischargeDepth := 60) only [hs, get40, set40, Nat.reduceLT, Nat.reduceEqDiff, if_true, if_false]
    · intro t h1 h2 h3
      simp (maxDischargeDepth := 60) only [hs, get40, set40, Nat.reduceLT]
      repeat rw [if_neg (by omega)]
  | false =>
    rw [hb] at be
    simp (maxDischargeDepth := 60) only [exec_seq, exec_region, exec_cond, exec_block, exec_skip, ops_cons, ops_nil, op_bin, op_move, op_assign, ev_tmp, ev_const, ofV_int, h25, b8, of_bool, of_int, give_val, orThen_val, put_some, andThen_normal, outOf_normal, hs, get40, set40, onBool_bool, Bool.cond_true, Bool.cond_false, h3, ba, bs, be, bx, bi, Nat.reduceLT, Nat.reduceEqDiff, if_true, if_false]
    refine hQ _ ?_ ?_ ?_ ?_
    · simp (maxDischargeDepth := 60) only [hs, set40]
    · have e : crcBit x = Nat.shiftRight x 1 := by unfold crcBit; rw [hb]; rfl
      simp (maxDischargeDepth := 60) only [hs, get40, set40, Nat.reduceLT, Nat.reduceEqDiff, if_true, if_false, e]
    · simp (maxDischargeDepth := 60) only [hs, get40, set40, Nat.reduceLT, Nat.reduceEqDiff, if_true, if_false]
    · intro t h1 h2 h3
      simp (maxDischargeDepth := 60) only [hs, get40, set40, Nat.reduceLT]
      repeat rw [if_neg (by omega)]

/-- What comes to nothing else is written as a state. -/
theorem crcBits_succ (n x : Nat) : crcBits (n + 1) x = crcBit (crcBits n x) := by
  induction n generalizing x with
  | zero => rfl
  | succ n ih => show crcBits (n + 1) (crcBit x) = crcBit (crcBits n (crcBit x)); exact ih (crcBit x)
theorem crcBits_lt {x : Nat} (h : x < 4294967296) : ∀ n, crcBits n x < 4294967296
  | 0 => h
  | n + 1 => by rw [crcBits_succ]; exact crcBit_lt (crcBits_lt h n)

theorem op_len1 {ρ : Env} (x : Operand) (t : TypeId) : opB (.call ⟨.builtin .len, #[x], #[t]⟩) T ρ H = (lenA T t (ev x ρ) H).give := op_len _ x t rfl

theorem bits_loop {u32 i64 u64 : TypeId} {x : Nat} (hx : x < 4294967296) {ρ : Env} (hs : Full 40 ρ) (h3 : ρ.get undefA 3 = .int .u32 (.ofNat x)) (h25 : ρ.get undefA 25 = .int .i64 (.ofNat 0)) (hr : 8 < rounds) (Q : ER → Prop)
    (hQ : ∀ ρ', Full 40 ρ' → ρ'.get undefA 3 = .int .u32 (.ofNat (crcBits 8 x)) → (∀ t, t < 25 → t ≠ 3 → t ≠ 7 → ρ'.get undefA t = ρ.get undefA t) → Q (.normal ρ' H)) :
    Q (execA T call rounds draw (.block 4 (.loop (cBit u32 i64 u64))) ρ H) := by
  obtain ⟨ρ', h1, h2, h4, h5, h6⟩ := loop_rounds (body := execA T call rounds draw (cBit u32 i64 u64)) (H := H) (r := fun ρ => .exit 4 ρ H) (n := 8) (rounds := rounds)
    (fun k ρ' => Full 40 ρ' ∧ ρ'.get undefA 3 = .int .u32 (.ofNat (crcBits k x)) ∧ ρ'.get undefA 25 = .int .i64 (.ofNat k) ∧ (∀ t, t < 25 → t ≠ 3 → t ≠ 7 → ρ'.get undefA t = ρ.get undefA t))
    (fun k hk ρ' ⟨g1, g2, g3, g4⟩ => by
      refine bit_step (crcBits_lt hx k) hk g1 g2 g3 (fun r => ∃ ρ'', r = .normal ρ'' H ∧ Full 40 ρ'' ∧ ρ''.get undefA 3 = .int .u32 (.ofNat (crcBits (k + 1) x)) ∧ ρ''.get undefA 25 = .int .i64 (.ofNat (k + 1)) ∧ (∀ t, t < 25 → t ≠ 3 → t ≠ 7 → ρ''.get undefA t = ρ.get undefA t)) fun ρ'' k1 k2 k3 k4 => ⟨ρ'', rfl, k1, ?_, k3, fun t a b c => (k4 t a b c).trans (g4 t a b c)⟩
      rw [k2, crcBits_succ])
    (fun ρ' ⟨g1, g2, g3, g4⟩ => by
      have b8 : binA T .lss i64 (.int .i64 (.ofNat 8)) (.int .i64 8) = .bool false := by rw [int_lss]; rfl
      refine ⟨ρ'.set 26 (.bool false), ?_, g1.set _ _, ?_, ?_, fun t a b c => ?_⟩
      · unfold cBit
        simp (maxDischargeDepth := 60) only [exec_cond, exec_exit, g3, b8, g1, exec_seq, exec_region, ops_cons, ops_nil, op_bin, ev_tmp, ev_const, ofV_int, of_bool, give_val, orThen_val, put_some, andThen_normal, andThen_exit, get40, onBool_bool, Bool.cond_false, Nat.reduceLT, if_true]
      · rw [get40 g1 (by decide), if_neg (by decide)]; exact g2
      · rw [get40 g1 (by decide), if_neg (by decide)]; exact g3
      · rw [get40 g1 (by decide), if_neg (by omega)]; exact g4 t a b c)
    (fun _ _ => rfl) hr ρ ⟨hs, h3, h25, fun _ _ _ _ => rfl⟩
  rw [exec_block, exec_loop, h1, outOf_exit]
  exact hQ ρ' h2 h4 h6

theorem crcL_cons {x : Nat} (hx : x < 4294967296) (b : UInt8) (l : List UInt8) : crcL (b :: l) x = crcL l (crcBits 8 (Nat.xor x b.toNat)) := by
  show cond (Nat.ble x 4294967295) (crcL l (crcBits 8 (Nat.xor x b.toNat))) 0 = _
  rw [ble_iff.2 (by omega)]; rfl

def cIn (str u8 u32 i64 u64 : TypeId) : Code := (.seq (.region 7 #[⟨(some 18), .move (.tmp 16), 0, "", #[], none⟩, ⟨(some 6), .assign (.tmp 18), 0, "", #[], none⟩] false) (.seq (.region 8 #[⟨(some 19), .move (.tmp 3), 0, "", #[], none⟩, ⟨(some 20), .move (.tmp 5), 0, "", #[], none⟩, ⟨(some 21), .move (.tmp 6), 0, "", #[], none⟩, ⟨(some 22), .index str (.tmp 20) (.tmp 21), 0, "", #[], none⟩, ⟨(some 23), .convert u8 u32 (.tmp 22), 0, "", #[], none⟩, ⟨(some 24), .binOp .xor u32 (.tmp 19) (.tmp 23) u32, 0, "", #[], none⟩, ⟨(some 3), .assign (.tmp 24), 0, "", #[], none⟩] false) (.seq (.region 9 #[⟨(some 25), .move (.const (.int .i64 (0))), 0, "", #[], none⟩] false) (.block 4 (.loop (cBit u32 i64 u64))))))
def cByte (str u8 u32 i64 u64 : TypeId) : Code := (.seq (.region 6 #[⟨(some 17), .binOp .lss i64 (.tmp 16) (.tmp 15) i64, 0, "", #[], none⟩] false) (.seq (.cond (.tmp 17) .skip (.exit 2)) (.seq (.block 3 (cIn str u8 u32 i64 u64)) (.region 16 #[⟨(some 36), .binOp .add i64 (.tmp 16) (.const (.int .i64 (1))) i64, 0, "", #[], none⟩, ⟨(some 16), .move (.tmp 36), 0, "", #[], none⟩] false))))
def cStrIn (sl str u8 u32 i64 u64 : TypeId) : Code := (.seq (.region 4 #[⟨(some 12), .indexAddr sl (.tmp 8) (.tmp 10), 0, "", #[], none⟩, ⟨(some 13), .load str (.tmp 12), 0, "", #[], none⟩, ⟨(some 5), .assign (.tmp 13), 0, "", #[], none⟩] false) (.seq (.region 5 #[⟨(some 14), .move (.tmp 5), 0, "", #[], none⟩, ⟨(some 15), .call ⟨.builtin .len, #[(.tmp 14)], #[str]⟩, 0, "", #[], none⟩, ⟨(some 16), .move (.const (.int .i64 (0))), 0, "", #[], none⟩] false) (.block 2 (.loop (cByte str u8 u32 i64 u64)))))
def cStr (sl str u8 u32 i64 u64 : TypeId) : Code := (.seq (.region 3 #[⟨(some 11), .binOp .lss i64 (.tmp 10) (.tmp 9) i64, 0, "", #[], none⟩] false) (.seq (.cond (.tmp 11) .skip (.exit 0)) (.seq (.block 1 (cStrIn sl str u8 u32 i64 u64)) (.region 17 #[⟨(some 37), .binOp .add i64 (.tmp 10) (.const (.int .i64 (1))) i64, 0, "", #[], none⟩, ⟨(some 10), .move (.tmp 37), 0, "", #[], none⟩] false))))
def cSum (sl str u8 u32 i64 u64 : TypeId) : Code := (.seq (.region 0 #[⟨(some 2), .assign (.const (.int .u32 (0))), 0, "", #[], none⟩] false) (.seq (.region 1 #[⟨(some 3), .assign (.const (.int .u32 (4294967295))), 0, "", #[], none⟩] false) (.seq (.seq (.region 2 #[⟨(some 8), .move (.tmp 0), 0, "", #[], none⟩, ⟨(some 9), .call ⟨.builtin .len, #[(.tmp 8)], #[sl]⟩, 0, "", #[], none⟩, ⟨(some 10), .move (.const (.int .i64 (0))), 0, "", #[], none⟩] false) (.block 0 (.loop (cStr sl str u8 u32 i64 u64)))) (.seq (.region 18 #[⟨(some 38), .move (.tmp 3), 0, "", #[], none⟩, ⟨(some 39), .binOp .xor u32 (.tmp 38) (.const (.int .u32 (4294967295))) u32, 0, "", #[], none⟩, ⟨(some 2), .assign (.tmp 39), 0, "", #[], none⟩] false) .ret))))

theorem index_str {t : TypeId} (ht : (T.kind t).isString = true) {s : List UInt8} {j : Nat} (hj : j < s.length) : indexA T t (.str s) (.int .i64 (.ofNat j)) H = .val (.int .u8 (.ofNat (lnth 0 s j).toNat)) H := by
  show cond (cond (T.kind t).isString (Nat.blt j (llen s)) false) (OR.val (byteV (lnth 0 s j)) H) .fail = _
  rw [ht, llen_eq, blt_iff.2 hj]; rfl
theorem convert_u8 {a b : TypeId} (ha : T.kind a = .int .u8) (hb : T.kind b = .int .u32) {n : Nat} (hn : n < 256) : convertA T a b (.int .u8 (.ofNat n)) H = .val (.int .u32 (.ofNat n)) H := by
  show (T.kind a).onInt OR.fail (fun _ => (T.kind b).onInt .fail fun k => .val (.int k (fwrap k (.ofNat n))) H) = _
  rw [ha, hb]
  show OR.val (.int .u32 (cond (Nat.blt n 4294967296) (.ofNat n) _)) H = _
  rw [blt_iff.2 (by omega)]; rfl
theorem len_str {t : TypeId} (ht : (T.kind t).isString = true) (s : List UInt8) : lenA T t (.str s) H = .val (.int .i64 (.ofNat s.length)) H := by
  show cond (T.kind t).isString (goN (llen s) H) .fail = _
  rw [ht, llen_eq]; rfl
theorem len_sl {t : TypeId} (ht : (T.kind t).isSlice = true) (o a n c : Nat) (e : Bool) (s : Nat) : lenA T t (.sl o a n c e s) H = .val (.int .i64 (.ofNat n)) H := by
  show cond (T.kind t).isSlice (goN n H) .fail = _
  rw [ht]; rfl
theorem addr_sl {t : TypeId} {es : Nat} {eb : Nat} {zc : List AV} {u : Bool} (ht : T.kind t = .slice es eb zc u) (h0 : es ≠ 0) {o a n c : Nat} {e : Bool} {i : Nat} (hi : i < n) : indexAddrA T t (.sl o a n c e es) (.int .i64 (.ofNat i)) H = .val (.ptr o (Nat.add a (Nat.mul i es))) H := by
  show (T.kind t).onSlice OR.fail (fun es' _ _ _ => cond (cond (Nat.blt i n) (cond (Nat.beq es es') (not (Nat.beq es 0)) false) false) (.val (.ptr o (Nat.add a (Nat.mul i es))) H) .fail) = _
  rw [ht]
  show cond (cond (Nat.blt i n) (cond (Nat.beq es es) (not (Nat.beq es 0)) false) false) (OR.val (.ptr o (Nat.add a (Nat.mul i es))) H) .fail = _
  rw [blt_iff.2 hi, beq_t rfl, beq_f h0]; rfl
theorem load_one {t : TypeId} (hk : (T.kind t).known = true) (ha : T.agg t = false) {o a : Nat} {cs : List AV} {sh : Option (Nat × Nat)} (hc : H.cells? o = .some cs sh) : loadA T t (.ptr o a) H = OR.of (lnth .bad cs a) H := by
  show cond (T.kind t).known (CR.casesOn (motive := fun _ => OR) (H.cells? o) .fail fun cs _ => OR.of (partA (T.agg t) (T.size t) cs a) H) .fail = _
  rw [hk, hc, ha]; rfl

theorem crcS_cons (s : List UInt8) (ss : List (List UInt8)) (x : Nat) : crcS (s :: ss) x = crcS ss (crcL s x) := rfl
theorem drop_cons {α : Type} (d : α) {l : List α} {k : Nat} (h : k < l.length) : l.drop k = lnth d l k :: l.drop (k + 1) := by
  rw [lnth_eq, List.getD_eq_getElem?_getD, List.getElem?_eq_getElem h]
  exact (List.drop_eq_getElem_cons h)

section
variable {str u8 u32 i64 u64 : TypeId} (hstr : (T.kind str).isString = true) (h8 : T.kind u8 = .int .u8) (h32 : T.kind u32 = .int .u32)
include hstr h8 h32

theorem in_step {s : List UInt8} {x j : Nat} (hx : x < 4294967296) (hj : j < s.length) {ρ : Env} (hs : Full 40 ρ) (h3 : ρ.get undefA 3 = .int .u32 (.ofNat x)) (h5 : ρ.get undefA 5 = .str s) (h16 : ρ.get undefA 16 = .int .i64 (.ofNat j)) (hr : 8 < rounds) (Q : ER → Prop)
    (hQ : ∀ ρ', Full 40 ρ' → ρ'.get undefA 3 = .int .u32 (.ofNat (crcBits 8 (Nat.xor x (lnth 0 s j).toNat))) → (∀ t, t < 18 → t ≠ 3 → t ≠ 6 → t ≠ 7 → ρ'.get undefA t = ρ.get undefA t) → Q (.normal ρ' H)) :
    Q (execA T call rounds draw (cIn str u8 u32 i64 u64) ρ H) := by
  have hb : (lnth 0 s j).toNat < 256 := UInt8.toNat_lt _
  have bi : indexA T str (.str s) (.int .i64 (.ofNat j)) H = .val (.int .u8 (.ofNat (lnth 0 s j).toNat)) H := index_str hstr hj
  have bc : convertA T u8 u32 (.int .u8 (.ofNat (lnth 0 s j).toNat)) H = .val (.int .u32 (.ofNat (lnth 0 s j).toNat)) H := convert_u8 h8 h32 hb
  have bx : binA T .xor u32 (.int .u32 (.ofNat x)) (.int .u32 (.ofNat (lnth 0 s j).toNat)) = .int .u32 (.ofNat (Nat.xor x (lnth 0 s j).toNat)) := int_xor hx (by show _ < 4294967296; omega)
  have hx' : Nat.xor x (lnth 0 s j).toNat < 4294967296 := Nat.xor_lt_two_pow (n := 32) hx (by show _ < 4294967296; omega)
  unfold cIn
  simp (maxDischargeDepth := 60) only [h16, h5, h3, bi, bc, bx, hs, exec_seq, exec_region, ops_cons, ops_nil, op_bin, op_move, op_assign, op_index, op_convert, ev_tmp, ev_const, ofV_int, of_int, of_str, give_val, orThen_val, put_some, andThen_normal, get40, set40, Nat.reduceLT, Nat.reduceEqDiff, if_true, if_false]
  refine bits_loop hx' ?_ ?_ ?_ hr Q ?_
  · simp (maxDischargeDepth := 60) only [hs, set40]
  · simp (maxDischargeDepth := 60) only [hs, get40, set40, Nat.reduceLT, Nat.reduceEqDiff, if_true, if_false]
  · simp (maxDischargeDepth := 60) only [hs, get40, set40, Nat.reduceLT, Nat.reduceEqDiff, if_true, if_false]; rfl
  · intro ρ' k1 k2 k3
    refine hQ ρ' k1 k2 fun t a b c d => ?_
    rw [k3 t (by omega) b d]
    simp (maxDischargeDepth := 60) only [hs, get40, set40, Nat.reduceLT]
    repeat rw [if_neg (by omega)]

theorem byte_step {s : List UInt8} {x j : Nat} (hx : x < 4294967296) (hj : j < s.length) (hlen : s.length ≤ most)
    {ρ : Env} (hs : Full 40 ρ) (h3 : ρ.get undefA 3 = .int .u32 (.ofNat x)) (h5 : ρ.get undefA 5 = .str s) (h15 : ρ.get undefA 15 = .int .i64 (.ofNat s.length)) (h16 : ρ.get undefA 16 = .int .i64 (.ofNat j)) (hr : 8 < rounds) (Q : ER → Prop)
    (hQ : ∀ ρ', Full 40 ρ' → ρ'.get undefA 3 = .int .u32 (.ofNat (crcBits 8 (Nat.xor x (lnth 0 s j).toNat))) → ρ'.get undefA 16 = .int .i64 (.ofNat (j + 1)) → (∀ t, t < 16 → t ≠ 3 → t ≠ 6 → t ≠ 7 → ρ'.get undefA t = ρ.get undefA t) → Q (.normal ρ' H)) :
    Q (execA T call rounds draw (cByte str u8 u32 i64 u64) ρ H) := by
  have hm : most = 70368744177664 := rfl
  have b8 : binA T .lss i64 (.int .i64 (.ofNat j)) (.int .i64 (.ofNat s.length)) = .bool true := by rw [int_lss]; exact congrArg AV.bool (decide_eq_true (by show (j : Int) < (s.length : Int); omega))
  have ba : binA T .add i64 (.int .i64 (.ofNat j)) (.int .i64 1) = .int .i64 (.ofNat (j + 1)) := int_add (b := 1) (by show j + 1 < 9223372036854775808; omega)
  unfold cByte
  simp (maxDischargeDepth := 60) only [exec_cond, exec_skip, exec_block, h16, h15, b8, hs, exec_seq, exec_region, ops_cons, ops_nil, op_bin, ev_tmp, of_bool, give_val, orThen_val, put_some, andThen_normal, get40, onBool_bool, Bool.cond_true, Nat.reduceLT, if_true]
  refine in_step hstr h8 h32 (s := s) (j := j) hx hj ?_ ?_ ?_ ?_ hr (fun r => Q ((r.outOf 3).andThen _)) ?_
  · exact hs.set _ _
  · rw [get40 hs (by decide), if_neg (by decide)]; exact h3
  · rw [get40 hs (by decide), if_neg (by decide)]; exact h5
  · rw [get40 hs (by decide), if_neg (by decide)]; exact h16
  · intro ρ' k1 k2 k3
    have k16 : ρ'.get undefA 16 = .int .i64 (.ofNat j) := by rw [k3 16 (by decide) (by decide) (by decide) (by decide), get40 hs (by decide), if_neg (by decide)]; exact h16
    show Q (((ER.normal ρ' H).outOf 3).andThen _)
    simp (maxDischargeDepth := 60) only [outOf_normal, k16, ba, k1, exec_region, ops_cons, ops_nil, op_bin, op_move, ev_tmp, ev_const, ofV_int, of_int, give_val, orThen_val, put_some, andThen_normal, get40, Nat.reduceLT, if_true]
    refine hQ _ ?_ ?_ ?_ ?_
    · exact (k1.set _ _).set _ _
    · simp (maxDischargeDepth := 60) only [k1, k2, get40, set40, Nat.reduceLT, Nat.reduceEqDiff, if_false]
    · simp (maxDischargeDepth := 60) only [k1, get40, set40, Nat.reduceLT, Nat.reduceEqDiff, if_true, if_false]
    · intro t a b c d
      simp (maxDischargeDepth := 60) only [k1, get40, set40, Nat.reduceLT]
      rw [if_neg (by omega), if_neg (by omega), k3 t (by omega) b c d, get40 hs (by decide), if_neg (by omega)]

theorem bytes_loop {s : List UInt8} {x : Nat} (hx : x < 4294967296) (hlen : s.length ≤ most)
    {ρ : Env} (hs : Full 40 ρ) (h3 : ρ.get undefA 3 = .int .u32 (.ofNat x)) (h5 : ρ.get undefA 5 = .str s) (h15 : ρ.get undefA 15 = .int .i64 (.ofNat s.length)) (h16 : ρ.get undefA 16 = .int .i64 (.ofNat 0)) (hr : 8 < rounds) (hrs : s.length < rounds) (Q : ER → Prop)
    (hQ : ∀ ρ', Full 40 ρ' → crcL s x < 4294967296 → ρ'.get undefA 3 = .int .u32 (.ofNat (crcL s x)) → (∀ t, t < 15 → t ≠ 3 → t ≠ 6 → t ≠ 7 → ρ'.get undefA t = ρ.get undefA t) → Q (.normal ρ' H)) :
    Q (execA T call rounds draw (.block 2 (.loop (cByte str u8 u32 i64 u64))) ρ H) := by
  obtain ⟨ρ', h1, h2, y, hy, hyc, g3, g16, g6⟩ := loop_rounds (body := execA T call rounds draw (cByte str u8 u32 i64 u64)) (H := H) (r := fun ρ => .exit 2 ρ H) (n := s.length) (rounds := rounds)
    (fun k ρ' => Full 40 ρ' ∧ ∃ y, y < 4294967296 ∧ crcL (s.drop k) y = crcL s x ∧ ρ'.get undefA 3 = .int .u32 (.ofNat y) ∧ ρ'.get undefA 16 = .int .i64 (.ofNat k) ∧ (∀ t, t < 16 → t ≠ 3 → t ≠ 6 → t ≠ 7 → ρ'.get undefA t = ρ.get undefA t))
    (fun k hk ρ' ⟨g1, y, hy, hyc, g3, g16, g6⟩ => by
      refine byte_step hstr h8 h32 hy hk hlen g1 g3 ((g6 5 (by decide) (by decide) (by decide) (by decide)).trans h5) ((g6 15 (by decide) (by decide) (by decide) (by decide)).trans h15) g16 hr
        (fun r => ∃ ρ'', r = .normal ρ'' H ∧ Full 40 ρ'' ∧ ∃ y, y < 4294967296 ∧ crcL (s.drop (k + 1)) y = crcL s x ∧ ρ''.get undefA 3 = .int .u32 (.ofNat y) ∧ ρ''.get undefA 16 = .int .i64 (.ofNat (k + 1)) ∧ (∀ t, t < 16 → t ≠ 3 → t ≠ 6 → t ≠ 7 → ρ''.get undefA t = ρ.get undefA t))
        fun ρ'' k1 k2 k3 k4 => ⟨ρ'', rfl, k1, _, ?_, ?_, k2, k3, fun t a b c d => (k4 t a b c d).trans (g6 t a b c d)⟩
      · exact crcBits_lt (Nat.xor_lt_two_pow (n := 32) hy (Nat.lt_trans (UInt8.toNat_lt _) (by decide))) 8
      · rw [← hyc, drop_cons 0 hk, crcL_cons hy])
    (fun ρ' ⟨g1, y, hy, hyc, g3, g16, g6⟩ => by
      have g15 := (g6 15 (by decide) (by decide) (by decide) (by decide)).trans h15
      have b8 : binA T .lss i64 (.int .i64 (.ofNat s.length)) (.int .i64 (.ofNat s.length)) = .bool false := by rw [int_lss]; exact congrArg AV.bool (decide_eq_false (by show ¬ ((s.length : Int) < (s.length : Int)); omega))
      refine ⟨ρ'.set 17 (.bool false), ?_, g1.set _ _, y, hy, hyc, ?_, ?_, fun t a b c d => ?_⟩
      · unfold cByte
        simp (maxDischargeDepth := 60) only [exec_cond, exec_exit, g16, g15, b8, g1, exec_seq, exec_region, ops_cons, ops_nil, op_bin, ev_tmp, of_bool, give_val, orThen_val, put_some, andThen_normal, andThen_exit, get40, onBool_bool, Bool.cond_false, Nat.reduceLT, if_true]
      · rw [get40 g1 (by decide), if_neg (by decide)]; exact g3
      · rw [get40 g1 (by decide), if_neg (by decide)]; exact g16
      · rw [get40 g1 (by decide), if_neg (by omega)]; exact g6 t a b c d)
    (fun _ _ => rfl) hrs ρ ⟨hs, x, hx, rfl, h3, h16, fun _ _ _ _ _ => rfl⟩
  rw [List.drop_length] at hyc
  have hyc : y = crcL s x := hyc
  subst hyc
  rw [exec_block, exec_loop, h1, outOf_exit]
  exact hQ ρ' h2 hy g3 fun t a b c d => g6 t (by omega) b c d

section
variable {sl : TypeId} {eb : Nat} {zc : List AV} (hsl : T.kind sl = .slice 1 eb zc false) (hk : (T.kind str).known = true) (hag : T.agg str = false)
include hsl hk hag

theorem str_step {o off n cap k : Nat} {ex : Bool} {cs : List AV} {sh : Option (Nat × Nat)} (hc : H.cells? o = .some cs sh) {s : List UInt8} (hcs : lnth .bad cs (Nat.add off (Nat.mul k 1)) = .str s) (hlen : s.length ≤ most) (hkn : k < n) (hn : n ≤ most)
    {x : Nat} (hx : x < 4294967296) {ρ : Env} (hs : Full 40 ρ) (h3 : ρ.get undefA 3 = .int .u32 (.ofNat x)) (hp8 : ρ.get undefA 8 = .sl o off n cap ex 1) (h9 : ρ.get undefA 9 = .int .i64 (.ofNat n)) (h10 : ρ.get undefA 10 = .int .i64 (.ofNat k)) (hr : 8 < rounds) (hrs : s.length < rounds) (Q : ER → Prop)
    (hQ : ∀ ρ', Full 40 ρ' → crcL s x < 4294967296 → ρ'.get undefA 3 = .int .u32 (.ofNat (crcL s x)) → ρ'.get undefA 8 = .sl o off n cap ex 1 → ρ'.get undefA 9 = .int .i64 (.ofNat n) → ρ'.get undefA 10 = .int .i64 (.ofNat (k + 1)) → Q (.normal ρ' H)) :
    Q (execA T call rounds draw (cStr sl str u8 u32 i64 u64) ρ H) := by
  have hm : most = 70368744177664 := rfl
  have b8 : binA T .lss i64 (.int .i64 (.ofNat k)) (.int .i64 (.ofNat n)) = .bool true := by rw [int_lss]; exact congrArg AV.bool (decide_eq_true (by show (k : Int) < (n : Int); omega))
  have ba : binA T .add i64 (.int .i64 (.ofNat k)) (.int .i64 1) = .int .i64 (.ofNat (k + 1)) := int_add (b := 1) (by show k + 1 < 9223372036854775808; omega)
  have bi : indexAddrA T sl (.sl o off n cap ex 1) (.int .i64 (.ofNat k)) H = .val (.ptr o (Nat.add off (Nat.mul k 1))) H := addr_sl hsl (by decide) hkn
  have bl : loadA T str (.ptr o (Nat.add off (Nat.mul k 1))) H = .val (.str s) H := by rw [load_one hk hag hc, hcs]; rfl
  have be : lenA T str (.str s) H = .val (.int .i64 (.ofNat s.length)) H := len_str hstr s
  unfold cStr
  simp (maxDischargeDepth := 60) only [exec_cond, exec_skip, exec_block, h10, h9, b8, hs, exec_seq, exec_region, ops_cons, ops_nil, op_bin, ev_tmp, of_bool, give_val, orThen_val, put_some, andThen_normal, get40, onBool_bool, Bool.cond_true, Nat.reduceLT, if_true]
  unfold cStrIn
  simp (maxDischargeDepth := 60) only [h10, hp8, bi, bl, be, hs, exec_seq, exec_region, ops_cons, ops_nil, op_move, op_assign, op_indexAddr, op_load, op_len1, ev_tmp, ev_const, ofV_int, of_int, of_str, give_val, orThen_val, put_some, andThen_normal, get40, set40, Nat.reduceLT, Nat.reduceEqDiff, if_true, if_false]
  refine bytes_loop hstr h8 h32 (s := s) hx hlen ?_ ?_ ?_ ?_ ?_ hr hrs (fun r => Q ((r.outOf 1).andThen _)) ?_
  · simp (maxDischargeDepth := 60) only [hs, set40]
  · simp (maxDischargeDepth := 60) only [hs, h3, get40, set40, Nat.reduceLT, Nat.reduceEqDiff, if_false]
  · simp (maxDischargeDepth := 60) only [hs, get40, set40, Nat.reduceLT, Nat.reduceEqDiff, if_true, if_false]
  · simp (maxDischargeDepth := 60) only [hs, get40, set40, Nat.reduceLT, Nat.reduceEqDiff, if_true, if_false]
  · simp (maxDischargeDepth := 60) only [hs, get40, set40, Nat.reduceLT, Nat.reduceEqDiff, if_true, if_false]; rfl
  · intro ρ' k1 k2 k3 k4
    have k8 : ρ'.get undefA 8 = .sl o off n cap ex 1 := by
      rw [k4 8 (by decide) (by decide) (by decide) (by decide)]
      simp (maxDischargeDepth := 60) only [hs, hp8, get40, set40, Nat.reduceLT, Nat.reduceEqDiff, if_false]
    have k9 : ρ'.get undefA 9 = .int .i64 (.ofNat n) := by
      rw [k4 9 (by decide) (by decide) (by decide) (by decide)]
      simp (maxDischargeDepth := 60) only [hs, h9, get40, set40, Nat.reduceLT, Nat.reduceEqDiff, if_false]
    have k10 : ρ'.get undefA 10 = .int .i64 (.ofNat k) := by
      rw [k4 10 (by decide) (by decide) (by decide) (by decide)]
      simp (maxDischargeDepth := 60) only [hs, h10, get40, set40, Nat.reduceLT, Nat.reduceEqDiff, if_false]
    show Q (((ER.normal ρ' H).outOf 1).andThen _)
    simp (maxDischargeDepth := 60) only [outOf_normal, k10, ba, k1, exec_region, ops_cons, ops_nil, op_bin, op_move, ev_tmp, ev_const, ofV_int, of_int, give_val, orThen_val, put_some, andThen_normal, get40, Nat.reduceLT, if_true]
    refine hQ _ ((k1.set _ _).set _ _) k2 ?_ ?_ ?_ ?_
    · simp (maxDischargeDepth := 60) only [k1, k3, get40, set40, Nat.reduceLT, Nat.reduceEqDiff, if_false]
    · simp (maxDischargeDepth := 60) only [k1, k8, get40, set40, Nat.reduceLT, Nat.reduceEqDiff, if_false]
    · simp (maxDischargeDepth := 60) only [k1, k9, get40, set40, Nat.reduceLT, Nat.reduceEqDiff, if_false]
    · simp (maxDischargeDepth := 60) only [k1, get40, set40, Nat.reduceLT, Nat.reduceEqDiff, if_true, if_false]


theorem strs_loop {o off n cap : Nat} {ex : Bool} {cs : List AV} {sh : Option (Nat × Nat)} (hc : H.cells? o = .some cs sh) {ss : List (List UInt8)} (hn : ss.length = n) (hcs : ∀ k, k < n → lnth .bad cs (Nat.add off (Nat.mul k 1)) = .str (lnth [] ss k)) (hlen : ∀ s ∈ ss, s.length ≤ most ∧ s.length < rounds) (hnm : n ≤ most)
    {x : Nat} (hx : x < 4294967296) {ρ : Env} (hs : Full 40 ρ) (h3 : ρ.get undefA 3 = .int .u32 (.ofNat x)) (hp8 : ρ.get undefA 8 = .sl o off n cap ex 1) (h9 : ρ.get undefA 9 = .int .i64 (.ofNat n)) (h10 : ρ.get undefA 10 = .int .i64 (.ofNat 0)) (hr : 8 < rounds) (hrn : n < rounds) (Q : ER → Prop)
    (hQ : ∀ ρ', Full 40 ρ' → crcS ss x < 4294967296 → ρ'.get undefA 3 = .int .u32 (.ofNat (crcS ss x)) → Q (.normal ρ' H)) :
    Q (execA T call rounds draw (.block 0 (.loop (cStr sl str u8 u32 i64 u64))) ρ H) := by
  subst hn
  obtain ⟨ρ', h1, h2, y, hy, hyc, g3, _, _, _⟩ := loop_rounds (body := execA T call rounds draw (cStr sl str u8 u32 i64 u64)) (H := H) (r := fun ρ => .exit 0 ρ H) (n := ss.length) (rounds := rounds)
    (fun k ρ' => Full 40 ρ' ∧ ∃ y, y < 4294967296 ∧ crcS (ss.drop k) y = crcS ss x ∧ ρ'.get undefA 3 = .int .u32 (.ofNat y) ∧ ρ'.get undefA 8 = .sl o off ss.length cap ex 1 ∧ ρ'.get undefA 9 = .int .i64 (.ofNat ss.length) ∧ ρ'.get undefA 10 = .int .i64 (.ofNat k))
    (fun k hk' ρ' ⟨g1, y, hy, hyc, g3, g8, g9, g10⟩ => by
      have hmem : lnth [] ss k ∈ ss := by
        rw [lnth_eq, List.getD_eq_getElem?_getD, List.getElem?_eq_getElem hk']; exact List.getElem_mem _
      refine str_step hstr h8 h32 hsl hk hag hc (hcs k hk') (hlen _ hmem).1 hk' hnm hy g1 g3 g8 g9 g10 hr (hlen _ hmem).2
        (fun r => ∃ ρ'', r = .normal ρ'' H ∧ Full 40 ρ'' ∧ ∃ y, y < 4294967296 ∧ crcS (ss.drop (k + 1)) y = crcS ss x ∧ ρ''.get undefA 3 = .int .u32 (.ofNat y) ∧ ρ''.get undefA 8 = .sl o off ss.length cap ex 1 ∧ ρ''.get undefA 9 = .int .i64 (.ofNat ss.length) ∧ ρ''.get undefA 10 = .int .i64 (.ofNat (k + 1)))
        fun ρ'' k1 k2 k3 k4 k5 k6 => ⟨ρ'', rfl, k1, _, k2, ?_, k3, k4, k5, k6⟩
      rw [← hyc, drop_cons [] hk', crcS_cons])
    (fun ρ' ⟨g1, y, hy, hyc, g3, g8, g9, g10⟩ => by
      have b8 : binA T .lss i64 (.int .i64 (.ofNat ss.length)) (.int .i64 (.ofNat ss.length)) = .bool false := by rw [int_lss]; exact congrArg AV.bool (decide_eq_false (by show ¬ ((ss.length : Int) < (ss.length : Int)); omega))
      refine ⟨ρ'.set 11 (.bool false), ?_, g1.set _ _, y, hy, hyc, ?_, ?_, ?_, ?_⟩
      · unfold cStr
        simp (maxDischargeDepth := 60) only [exec_cond, exec_exit, g9, g10, b8, g1, exec_seq, exec_region, ops_cons, ops_nil, op_bin, ev_tmp, of_bool, give_val, orThen_val, put_some, andThen_normal, andThen_exit, get40, onBool_bool, Bool.cond_false, Nat.reduceLT, if_true]
      · rw [get40 g1 (by decide), if_neg (by decide)]; exact g3
      · rw [get40 g1 (by decide), if_neg (by decide)]; exact g8
      · rw [get40 g1 (by decide), if_neg (by decide)]; exact g9
      · rw [get40 g1 (by decide), if_neg (by decide)]; exact g10)
    (fun _ _ => rfl) hrn ρ ⟨hs, x, hx, rfl, h3, hp8, h9, h10⟩
  rw [List.drop_length] at hyc
  have hyc : y = crcS ss x := hyc
  subst hyc
  rw [exec_block, exec_loop, h1, outOf_exit]
  exact hQ ρ' h2 hy g3

theorem sum_code {o off n cap : Nat} {ex : Bool} {cs : List AV} {sh : Option (Nat × Nat)} (hc : H.cells? o = .some cs sh) {ss : List (List UInt8)} (hn : ss.length = n) (hcs : ∀ k, k < n → lnth .bad cs (Nat.add off (Nat.mul k 1)) = .str (lnth [] ss k)) (hlen : ∀ s ∈ ss, s.length ≤ most ∧ s.length < rounds) (hnm : n ≤ most)
    {ρ : Env} (hs : Full 40 ρ) (h0 : ρ.get undefA 0 = .sl o off n cap ex 1) (hr : 8 < rounds) (hrn : n < rounds) (Q : ER → Prop)
    (hQ : ∀ ρ', ρ'.get undefA 2 = .int .u32 (.ofNat (Nat.xor (crcS ss 4294967295) 4294967295)) → Q (.ret ρ' H)) :
    Q (execA T call rounds draw (cSum sl str u8 u32 i64 u64) ρ H) := by
  have be : lenA T sl (.sl o off n cap ex 1) H = .val (.int .i64 (.ofNat n)) H := len_sl (by rw [hsl]; rfl) _ _ _ _ _ _
  unfold cSum
  simp (maxDischargeDepth := 60) only [h0, be, hs, exec_seq, exec_region, ops_cons, ops_nil, op_move, op_assign, op_len1, ev_tmp, ev_const, ofV_int, of_int, of_sl, give_val, orThen_val, put_some, andThen_normal, get40, set40, Nat.reduceLT, Nat.reduceEqDiff, if_true, if_false]
  refine strs_loop hstr h8 h32 hsl hk hag (cap := cap) (ex := ex) hc hn hcs hlen hnm (x := 4294967295) (by decide) ?_ ?_ ?_ ?_ ?_ hr hrn (fun r => Q (r.andThen _)) ?_
  · simp (maxDischargeDepth := 60) only [hs, set40]
  · simp (maxDischargeDepth := 60) only [hs, get40, set40, Nat.reduceLT, Nat.reduceEqDiff, if_true, if_false]; rfl
  · simp (maxDischargeDepth := 60) only [hs, get40, set40, Nat.reduceLT, Nat.reduceEqDiff, if_true, if_false]
  · simp (maxDischargeDepth := 60) only [hs, get40, set40, Nat.reduceLT, Nat.reduceEqDiff, if_true, if_false]
  · simp (maxDischargeDepth := 60) only [hs, get40, set40, Nat.reduceLT, Nat.reduceEqDiff, if_true, if_false]; rfl
  · intro ρ' k1 k2 k3
    have bx : binA T .xor u32 (.int .u32 (.ofNat (crcS ss 4294967295))) (.int .u32 4294967295) = .int .u32 (.ofNat (Nat.xor (crcS ss 4294967295) 4294967295)) := int_xor (b := 4294967295) k2 (by decide)
    show Q ((ER.normal ρ' H).andThen _)
    simp (maxDischargeDepth := 60) only [exec_ret, k3, bx, k1, exec_seq, exec_region, ops_cons, ops_nil, op_bin, op_move, op_assign, ev_tmp, ev_const, ofV_int, of_int, give_val, orThen_val, put_some, andThen_normal, get40, set40, Nat.reduceLT, Nat.reduceEqDiff, if_true, if_false]
    refine hQ _ ?_
    simp (maxDischargeDepth := 60) only [k1, get40, set40, Nat.reduceLT, Nat.reduceEqDiff, if_true, if_false]
end
end

/-- Texts, each of a length that may be. -/
noncomputable def strsA {α : Type} (d : α) (f : List (List UInt8) → α) (l : List AV) : α :=
  Option.casesOn (List.rec (motive := fun _ => Option (List (List UInt8))) (some []) (fun v _ ih => v.onStr none fun s => cond (Nat.ble (llen s) most) (Option.casesOn ih none fun r => some (s :: r)) none) l) d f
/-- What is told of the sum. -/
noncomputable def sumS (args : List AV) (H : Heap) : SR :=
  args1 .fail (fun x => x.onSl .fail fun o off n _ _ es => cond (cond (Nat.beq es 1) (Nat.ble n most) false) (CR.casesOn (H.cells? o) .fail fun cs _ => slc .fail (fun r => strsA .fail (fun ss => .ok (.int .u32 (.ofNat (Nat.xor (crcS ss 4294967295) 4294967295))) H) r) cs off n) .fail) args

noncomputable def strsL (l : List AV) : Option (List (List UInt8)) := List.rec (some []) (fun v _ ih => v.onStr none fun s => cond (Nat.ble (llen s) most) (Option.casesOn ih none fun r => some (s :: r)) none) l
theorem strsL_sound : ∀ {l : List AV} {ss : List (List UInt8)}, strsL l = some ss → l = ss.map AV.str ∧ ∀ s ∈ ss, s.length ≤ most
  | [], _, h => by cases h; exact ⟨rfl, fun _ h => by cases h⟩
  | v :: l, ss, h => by
    have h : v.onStr none (fun s => cond (Nat.ble (llen s) most) (Option.casesOn (motive := fun _ => Option (List (List UInt8))) (strsL l) none fun r => some (s :: r)) none) = some ss := h
    obtain ⟨s, rfl, h1⟩ := onStr_cases h (by simp)
    obtain ⟨hl, h2⟩ := cond_cases h1 (by simp)
    obtain ⟨r, h3, h4⟩ := opt_cases h2 (by simp)
    cases h4
    obtain ⟨g1, g2⟩ := strsL_sound h3
    rw [ble_iff, llen_eq] at hl
    refine ⟨by rw [g1]; rfl, fun x hx => ?_⟩
    rcases List.mem_cons.1 hx with rfl | hx
    · exact hl
    · exact g2 x hx

theorem onSl_cases {α : Type} {d : α} {f : Nat → Nat → Nat → Nat → Bool → Nat → α} {v : AV} {r : α} (h : v.onSl d f = r) (hr : r ≠ d) : ∃ o a n c e s, v = .sl o a n c e s ∧ f o a n c e s = r := by
  cases v with
  | sl o a n c e s => exact ⟨o, a, n, c, e, s, rfl, h⟩
  | _ => exact absurd h.symm hr

theorem sumS_cases {args : List AV} {H' : Heap} {v : AV} (h : sumS args H = .ok v H') :
    ∃ o off n cap ex cs sh ss, args = [.sl o off n cap ex 1] ∧ n ≤ most ∧ H.cells? o = .some cs sh ∧ List.length ss = n ∧ (∀ k, k < n → lnth .bad cs (Nat.add off (Nat.mul k 1)) = .str (lnth [] ss k)) ∧ (∀ s ∈ ss, List.length s ≤ most) ∧
      v = .int .u32 (.ofNat (Nat.xor (crcS ss 4294967295) 4294967295)) ∧ H' = H := by
  unfold sumS at h
  obtain ⟨x, rfl, h1⟩ := args1_cases (d := SR.fail) h (by simp)
  obtain ⟨o, off, n, cap, ex, es, rfl, h2⟩ := onSl_cases h1 (by simp)
  obtain ⟨hc, h3⟩ := cond_cases h2 (by simp)
  obtain ⟨he, hn⟩ := cond_and hc
  rw [beq_iff] at he
  subst he
  rw [ble_iff] at hn
  obtain ⟨cs, sh, hcs, h4⟩ := cr_cases (d := SR.fail) h3 (by simp)
  obtain ⟨hl, h5⟩ := slc_cases h4 (by simp)
  unfold strsA at h5
  obtain ⟨ss, h6, h7⟩ := opt_cases h5 (by simp)
  cases h7
  obtain ⟨g1, g2⟩ := strsL_sound h6
  have hlen : ss.length = n := by
    have := congrArg List.length g1
    rw [List.length_take, List.length_drop, List.length_map] at this
    omega
  refine ⟨o, off, n, cap, ex, cs, sh, ss, rfl, hn, hcs, hlen, fun k hk => ?_, g2, rfl, rfl⟩
  have e : ((cs.drop off).take n)[k]? = (ss.map AV.str)[k]? := by rw [g1]
  rw [List.getElem?_take_of_lt hk, List.getElem?_drop, List.getElem?_map] at e
  rw [lnth_eq, lnth_eq, List.getD_eq_getElem?_getD, List.getD_eq_getElem?_getD]
  have e1 : Nat.add off (Nat.mul k 1) = off + k := by show off + k * 1 = _; omega
  have hk' : k < ss.length := by omega
  rw [e1, e, List.getElem?_eq_getElem hk']
  rfl

theorem init_full (args : List AV) (n : Nat) : Full n (initA args n) := fun i hi => by
  show TT.has (TT.mk _ n) i = true
  rw [has_mk]; exact decide_eq_true hi
theorem init_get (args : List AV) {n i : Nat} (hi : i < n) : (initA args n).get undefA i = lnth undefA args i := by
  show TT.get undefA (TT.mk _ n) i = _
  rw [get_mk, if_pos hi]

theorem call_some {S : Sums} {n : Nat} {f : FuncId} {args : List AV} {nt : Nat} {rs : List ResultVar} {c : Code} {dr : Caller → List Oper → Env → Heap → ER} (hS : S f args H = .no) (hT : T.fn f = .some nt rs c) (hn : args.length ≤ nt) :
    callA T S rounds dr (n + 1) f args H = endA T rs (execA T (callA T S rounds dr n) rounds (dr (callA T S rounds dr n)) c (initA args nt) H) := by
  have e : callA T S rounds dr (n + 1) f args H = SR.casesOn (motive := fun _ => KR) (S f args H)
      (FI.casesOn (motive := fun _ => KR) (T.fn f) .fail
        (fun ntmps rs c => endA T rs (execA T (callA T S rounds dr n) rounds (dr (callA T S rounds dr n)) c (initA args (cond (Nat.ble (llen args) ntmps) ntmps (llen args))) H))
        (fun _ => .fail))
      (fun v H => .ok v H) .fail := rfl
  rw [e, hS, hT]
  show endA T rs (execA T _ rounds _ c (initA args (cond (Nat.ble (llen args) nt) nt (llen args))) H) = _
  rw [llen_eq, ble_iff.2 hn]; rfl

/-- WHAT IS TOLD OF THE SUM IS WHAT THE MACHINE COMES TO. -/
theorem SumOk.sum {P : Program} (hT : Fits T P) (hm : P.follows .mixedOrders = true) {f : FuncId} {sl str u8 u32 i64 u64 : TypeId} {eb : Nat} {zc : List AV} {c : Code} (hf : T.fn f = .some 40 [.tmp 2] c) (hcode : bareC c = cSum sl str u8 u32 i64 u64)
    (hstr : (T.kind str).isString = true) (h8 : T.kind u8 = .int .u8) (h32 : T.kind u32 = .int .u32) (hsl : T.kind sl = .slice 1 eb zc false) (hk : (T.kind str).known = true) (hag : T.agg str = false) : SumOk P f sumS := by
  intro args H v H' he m w args' hr hw ha
  obtain ⟨o, off, n, cap, ex, cs, sh, ss, rfl, hn, hcs, hlen, hk', hss, rfl, rfl⟩ := sumS_cases he
  let R : Nat := most + 9
  have hrun : callA T noS R (drawA T) 1 f [.sl o off n cap ex 1] H' = .ok (.int .u32 (.ofNat (Nat.xor (crcS ss 4294967295) 4294967295))) H' := by
    have hm' : most = 70368744177664 := rfl
    rw [call_some (n := 0) (T := T) rfl hf (by show 1 ≤ 40; omega), ← exec_bare, hcode]
    refine sum_code hstr h8 h32 hsl hk hag (cap := cap) (ex := ex) hcs hlen hk' (fun s hs => ⟨hss s hs, ?_⟩) hn (init_full _ 40) ?_ ?_ ?_ (fun r => endA T [.tmp 2] r = _) ?_
    · show s.length < most + 9
      have := hss s hs; omega
    · rw [init_get _ (by decide)]; rfl
    · show 8 < most + 9; omega
    · show n < most + 9; omega
    · intro ρ' h2
      show resultsA T [.tmp 2] ρ' H' = _
      show Option.casesOn (motive := fun _ => KR) (Option.casesOn (motive := fun _ => Option (List AV)) (some (ρ'.get undefA 2)) none fun v => some [v]) .fail (fun vs => .ok (oneOf vs) H') = _
      rw [h2]; rfl
  exact machine_sound hT hm SumsOk.none R 1 f _ H' _ _ hrun m w args' hr hw ha
end Go.Ai
