/- Whether a command is small (package chroniclebook, Small): the machine comes to one of two answers, and lays one object. -/
import Derived.Test.YtmbohkdfdolkkaaGreatDoorAiCrc
namespace Go.Ai
open Go
section
variable {T : Tab} {call : Caller} {rounds : Nat} {draw : List Oper → Env → Heap → ER} {ρ : Env} {H : Heap}
/-- Is a guard met? -/
noncomputable def guardB (ops : List Oper) (ρ : Env) (j : Nat) (w : Bool) : Option Bool := Option.casesOn (dstOf ops j) none fun t => (ρ.get undefA t).onBool none fun b => some (cond b w (not w))
noncomputable def guardT (x : Option Tmp) (ρ : Env) (w : Bool) : Option Bool := Option.casesOn x none fun t => (ρ.get undefA t).onBool none fun b => some (cond b w (not w))
theorem guardB_eq (ops : List Oper) (j : Nat) (w : Bool) : guardB ops ρ j w = guardT (dstOf ops j) ρ w := rfl
theorem guardT_some (t : Tmp) (w : Bool) : guardT (some t) ρ w = (ρ.get undefA t).onBool none fun b => some (cond b w (not w)) := rfl
theorem dstOf_zero (o : Oper) (l : List Oper) : dstOf (o :: l) 0 = o.dst := rfl
theorem dstOf_succ (o : Oper) (l : List Oper) (n : Nat) : dstOf (o :: l) (n + 1) = dstOf l n := rfl
theorem wanted_by {α : Type} {d yes no : α} {j : Nat} {w g : Bool} {ops : List Oper} (h : guardB ops ρ j w = some g) : wantedA d yes no (some (j, w)) ops ρ = cond g yes no := by
  show Option.casesOn (motive := fun _ => α) (dstOf ops j) no (fun t => (ρ.get undefA t).onGuard d no fun b => cond b (cond w yes no) (cond w no yes)) = _
  unfold guardB at h
  cases hd : dstOf ops j with
  | none => rw [hd] at h; cases h
  | some t =>
    rw [hd] at h
    have h : (ρ.get undefA t).onBool none (fun b => some (cond b w (not w))) = some g := h
    obtain ⟨b, hb, h2⟩ := onBool_cases h (by simp)
    show (ρ.get undefA t).onGuard d no (fun b => cond b (cond w yes no) (cond w no yes)) = _
    rw [hb]
    cases h2
    cases b <;> cases w <;> rfl
theorem ops_go {ops l : List Oper} {dst : Option Tmp} {op : Op} {ty : TypeId} {pos : String} {after : Array Edge} {j : Nat} {w : Bool} (h : guardB ops ρ j w = some true) :
    opsA T call ops (⟨dst, op, ty, pos, after, some (j, w)⟩ :: l) ρ H = (opB op T ρ H).andThen dst call (opsA T call ops l) ρ := wanted_by (d := ER.fail) (yes := (opB op T ρ H).andThen dst call (opsA T call ops l) ρ) (no := opsA T call ops l (putA ρ dst undefA) H) h
theorem ops_no {ops l : List Oper} {dst : Option Tmp} {op : Op} {ty : TypeId} {pos : String} {after : Array Edge} {j : Nat} {w : Bool} (h : guardB ops ρ j w = some false) :
    opsA T call ops (⟨dst, op, ty, pos, after, some (j, w)⟩ :: l) ρ H = opsA T call ops l (putA ρ dst undefA) H := wanted_by (d := ER.fail) (yes := (opB op T ρ H).andThen dst call (opsA T call ops l) ρ) (no := opsA T call ops l (putA ρ dst undefA) H) h
theorem op_pick (c a b : Operand) : opB (.pick c a b) T ρ H = ((ev c ρ).onBool OR.fail fun t => OR.of (cond t (ev a ρ) (ev b ρ)) H).give := rfl
theorem op_fieldAddr (t : TypeId) (x : Operand) (f : Nat) : opB (.fieldAddr t x f) T ρ H = (fieldAddrA T t (ev x ρ) f H).give := rfl
theorem ofV_bool (b : Bool) : ofValue (.bool b) = .bool b := rfl
theorem op_box (e : TypeId) (x : Operand) {v : AV} (hv : ev x ρ = v) (h1 : OR.of v H = .val v H) (h2 : lall AV.single v.cells = true) : opB (.box e x) T ρ H = .val (.ptr H.next 0) (H.new (.cells v.cells none)) := by
  show OR.casesOn (motive := fun _ => OR) (OR.casesOn (motive := fun _ => OR) (OR.of (ev x ρ) H) .fail (fun v _ => cond (lall AV.single v.cells) (OR.val (.ptr H.next 0) (H.new (.cells v.cells none))) .fail) (fun _ => .fail) (fun _ _ _ => .fail)) .fail _ _ _ = _
  rw [hv, h1]
  show OR.casesOn (motive := fun _ => OR) (cond (lall AV.single v.cells) (OR.val (.ptr H.next 0) (H.new (.cells v.cells none))) .fail) .fail _ _ _ = _
  rw [h2]; rfl

/-- A loop of which each round goes on, or ends it; no more than n rounds. -/
theorem loop_any {body : Env → Heap → ER} {H : Heap} (I : Nat → Env → Prop) {n rounds : Nat} (Q : ER → Prop)
    (step : ∀ k ρ, k ≤ n → I k ρ → (∃ ρ', body ρ H = .normal ρ' H ∧ k < n ∧ I (k + 1) ρ') ∨ (Q (body ρ H) ∧ ∀ f, (body ρ H).andThen f = body ρ H)) (hn : n < rounds) : ∀ ρ, I 0 ρ → Q (loopA body rounds ρ H) := by
  have go : ∀ m k ρ, k ≤ n → n - k < m → I k ρ → Q (loopA body m ρ H) := by
    intro m
    induction m with
    | zero => intro k ρ _ h _; omega
    | succ m ih =>
      intro k ρ hk hm hI
      rcases step k ρ hk hI with ⟨ρ', h1, h2, h3⟩ | ⟨h1, h2⟩
      · rw [loopA_succ, h1]; exact ih (k + 1) ρ' (by omega) (by omega) h3
      · rw [loopA_succ, h2]; exact h1
  exact fun ρ h => go rounds 0 ρ (Nat.zero_le _) (by omega) h
end
theorem set43 {ρ : Env} (h : Full 43 ρ) (i : Nat) (v : AV) : Full 43 (ρ.set i v) := h.set i v
theorem get43 {ρ : Env} (h : Full 43 ρ) {i j : Nat} {v : AV} (hi : i < 43) : (ρ.set i v).get undefA j = if j = i then v else ρ.get undefA j := h.get_set hi

def smLoop (tc tevs te ts ti : TypeId) : Code := (.seq (.seq (.region 2 #[⟨(some 4), .move (.tmp 3), 0, "", #[], none⟩, ⟨(some 5), .fieldAddr tc (.tmp 1) 4, 0, "", #[], none⟩, ⟨(some 6), .load tevs (.tmp 5), 0, "", #[], none⟩, ⟨(some 7), .call ⟨.builtin .len, #[(.tmp 6)], #[tevs]⟩, 0, "", #[], none⟩, ⟨(some 8), .binOp .lss ti (.tmp 4) (.tmp 7) ti, 0, "", #[], none⟩, ⟨(some 9), .move (.tmp 8), 0, "", #[], none⟩, ⟨(some 10), .move (.tmp 3), 0, "", #[], (some (5, true))⟩, ⟨(some 11), .binOp .lss ti (.tmp 10) (.const (.int .i64 (20))) ti, 0, "", #[], (some (5, true))⟩, ⟨(some 12), .pick (.tmp 9) (.tmp 11) (.const (.bool false)), 0, "", #[], none⟩] false) (.cond (.tmp 12) .skip (.exit 0))) (.seq (.block 1 (.seq (.region 4 #[⟨(some 15), .fieldAddr tc (.tmp 1) 4, 0, "", #[], none⟩, ⟨(some 16), .load tevs (.tmp 15), 0, "", #[], none⟩, ⟨(some 17), .move (.tmp 3), 0, "", #[], none⟩, ⟨(some 18), .indexAddr tevs (.tmp 16) (.tmp 17), 0, "", #[], none⟩, ⟨(some 19), .fieldAddr te (.tmp 18) 1, 0, "", #[], none⟩, ⟨(some 20), .load ts (.tmp 19), 0, "", #[], none⟩, ⟨(some 21), .call ⟨.builtin .len, #[(.tmp 20)], #[ts]⟩, 0, "", #[], none⟩, ⟨(some 22), .binOp .gtr ti (.tmp 21) (.const (.int .i64 (100))) ti, 0, "", #[], none⟩, ⟨(some 23), .move (.tmp 22), 0, "", #[], none⟩, ⟨(some 24), .fieldAddr tc (.tmp 1) 4, 0, "", #[], (some (8, false))⟩, ⟨(some 25), .load tevs (.tmp 24), 0, "", #[], (some (8, false))⟩, ⟨(some 26), .move (.tmp 3), 0, "", #[], (some (8, false))⟩, ⟨(some 27), .indexAddr tevs (.tmp 25) (.tmp 26), 0, "", #[], (some (8, false))⟩, ⟨(some 28), .fieldAddr te (.tmp 27) 2, 0, "", #[], (some (8, false))⟩, ⟨(some 29), .load ts (.tmp 28), 0, "", #[], (some (8, false))⟩, ⟨(some 30), .call ⟨.builtin .len, #[(.tmp 29)], #[ts]⟩, 0, "", #[], (some (8, false))⟩, ⟨(some 31), .binOp .gtr ti (.tmp 30) (.const (.int .i64 (300))) ti, 0, "", #[], (some (8, false))⟩, ⟨(some 32), .pick (.tmp 23) (.const (.bool true)) (.tmp 31), 0, "", #[], none⟩] false) (.cond (.tmp 32) (.seq (.region 5 #[⟨(some 2), .assign (.const (.bool false)), 0, "", #[], none⟩] false) .ret) .skip))) (.region 3 #[⟨(some 13), .move (.tmp 3), 0, "", #[], none⟩, ⟨(some 14), .binOp .add ti (.tmp 13) (.const (.int .i64 (1))) ti, 0, "", #[], none⟩, ⟨(some 3), .assign (.tmp 14), 0, "", #[], none⟩] false)))
def smTail (tc tevs ts ti : TypeId) : Code := (.seq (.region 6 #[⟨(some 33), .fieldAddr tc (.tmp 1) 4, 0, "", #[], none⟩, ⟨(some 34), .load tevs (.tmp 33), 0, "", #[], none⟩, ⟨(some 35), .call ⟨.builtin .len, #[(.tmp 34)], #[tevs]⟩, 0, "", #[], none⟩, ⟨(some 36), .binOp .leq ti (.tmp 35) (.const (.int .i64 (12))) ti, 0, "", #[], none⟩, ⟨(some 37), .move (.tmp 36), 0, "", #[], none⟩, ⟨(some 38), .fieldAddr tc (.tmp 1) 2, 0, "", #[], (some (4, true))⟩, ⟨(some 39), .load ts (.tmp 38), 0, "", #[], (some (4, true))⟩, ⟨(some 40), .call ⟨.builtin .len, #[(.tmp 39)], #[ts]⟩, 0, "", #[], (some (4, true))⟩, ⟨(some 41), .binOp .leq ti (.tmp 40) (.const (.int .i64 (100))) ti, 0, "", #[], (some (4, true))⟩, ⟨(some 42), .pick (.tmp 37) (.tmp 41) (.const (.bool false)), 0, "", #[], none⟩, ⟨(some 2), .assign (.tmp 42), 0, "", #[], none⟩] false) .ret)
def smAll (tc tevs te ts ti : TypeId) : Code := (.seq (.region 0 #[⟨(some 1), .box tc (.tmp 0), 0, "", #[], none⟩, ⟨(some 2), .assign (.const (.bool false)), 0, "", #[], none⟩] false) (.seq (.seq (.region 1 #[⟨(some 3), .assign (.const (.int .i64 (0))), 0, "", #[], none⟩] false) (.block 0 (.loop (smLoop tc tevs te ts ti)))) (smTail tc tevs ts ti)))

theorem int_gtr {T : Tab} {t : TypeId} {k : IntKind} {a b : Int} : binA T .gtr t (.int k a) (.int k b) = .bool (ilt b a) := by
  show cond (keq k k) (AV.bool (ilt b a)) _ = _
  rw [keq_eq]; simp
theorem int_leq {T : Tab} {t : TypeId} {k : IntKind} {a b : Int} : binA T .leq t (.int k a) (.int k b) = .bool (not (ilt b a)) := by
  show cond (keq k k) (AV.bool (not (ilt b a))) _ = _
  rw [keq_eq]; simp
section
variable {T : Tab} {call : Caller} {rounds : Nat} {draw : List Oper → Env → Heap → ER} {H : Heap} {tc tevs te ts ti : TypeId} {h n : Nat} {ev : AV} {s : List UInt8}
variable (hfa4 : fieldAddrA T tc (.ptr h 0) 4 H = .val (.ptr h 4) H) (hld : loadA T tevs (.ptr h 4) H = .val ev H) (hlen : lenA T tevs ev H = .val (.int .i64 (.ofNat n)) H)
  (hel : ∀ k, k < n → ∃ p p1 p2 s1 s2, indexAddrA T tevs ev (.int .i64 (.ofNat k)) H = .val p H ∧ fieldAddrA T te p 1 H = .val p1 H ∧ loadA T ts p1 H = .val (.str s1) H ∧ fieldAddrA T te p 2 H = .val p2 H ∧ loadA T ts p2 H = .val (.str s2) H)
  (hstr : (T.kind ts).isString = true)
include hfa4 hld hlen hel hstr

theorem sm_round {ρ : Env} {k : Nat} (_hsl : OR.of ev H = .val ev H) (hk : k ≤ 20) (hs : Full 43 ρ) (h1 : ρ.get undefA 1 = .ptr h 0) (h3 : ρ.get undefA 3 = .int .i64 (.ofNat k)) (Q : ER → Prop)
    (hQ1 : ∀ ρ', k < 20 → Full 43 ρ' → ρ'.get undefA 1 = .ptr h 0 → ρ'.get undefA 3 = .int .i64 (.ofNat (k + 1)) → Q (.normal ρ' H))
    (hQ2 : ∀ ρ', Full 43 ρ' → ρ'.get undefA 1 = .ptr h 0 → Q (.exit 0 ρ' H)) (hQ3 : ∀ ρ', ρ'.get undefA 2 = .bool false → Q (.ret ρ' H)) : Q (execA T call rounds draw (smLoop tc tevs te ts ti) ρ H) := by
  have b1 : binA T .lss ti (.int .i64 (.ofNat k)) (.int .i64 (.ofNat n)) = .bool (decide (k < n)) := by
    rw [int_lss]; exact congrArg AV.bool (by congr 1; exact propext ⟨fun q => by have : (k : Int) < (n : Int) := q; omega, fun q => by show (k : Int) < (n : Int); omega⟩)
  have b2 : binA T .lss ti (.int .i64 (.ofNat k)) (.int .i64 20) = .bool (decide (k < 20)) := by
    rw [int_lss]; exact congrArg AV.bool (by congr 1; exact propext ⟨fun q => by have : (k : Int) < 20 := q; omega, fun q => by show (k : Int) < 20; omega⟩)
  have ba : binA T .add ti (.int .i64 (.ofNat k)) (.int .i64 1) = .int .i64 (.ofNat (k + 1)) := int_add (b := 1) (by show k + 1 < 9223372036854775808; omega)
  unfold smLoop
  by_cases hkn : k < n
  · rw [decide_eq_true hkn] at b1
    by_cases h20 : k < 20
    · rw [decide_eq_true h20] at b2
      obtain ⟨p, p1, p2, s1, s2, e1, e2, e3, e4, e5⟩ := hel k hkn
      have l1 : lenA T ts (.str s1) H = .val (.int .i64 (.ofNat s1.length)) H := len_str hstr s1
      have l2 : lenA T ts (.str s2) H = .val (.int .i64 (.ofNat s2.length)) H := len_str hstr s2
      obtain ⟨g1, hg1⟩ : ∃ g, binA T .gtr ti (.int .i64 (.ofNat s1.length)) (.int .i64 100) = .bool g := ⟨_, int_gtr⟩
      obtain ⟨g2, hg2⟩ : ∃ g, binA T .gtr ti (.int .i64 (.ofNat s2.length)) (.int .i64 300) = .bool g := ⟨_, int_gtr⟩
      cases g1 with
      | true =>
        simp (maxDischargeDepth := 60) (implicitDefEqProofs := false) only [h1, h3, hfa4, hld, hlen, b1, b2, hs, e1, e2, e3, l1, hg1, exec_seq, exec_region, exec_cond, exec_block, exec_skip, exec_exit, exec_ret, ops_cons, ops_nil, ops_go, ops_no, guardB_eq, guardT_some, dstOf_zero, dstOf_succ, Bool.not_true, Bool.not_false, op_bin, op_move, op_assign, op_pick, op_indexAddr, op_load, op_fieldAddr, op_len1, ev_tmp, ev_const, ofV_int, ofV_bool, of_bool, of_int, give_val, orThen_val, put_some, andThen_normal, andThen_ret, outOf_ret, get43, set43, onBool_bool, Bool.cond_true, Nat.reduceLT, Nat.reduceEqDiff, if_true, if_false]
        refine hQ3 _ ?_
        simp (maxDischargeDepth := 60) (implicitDefEqProofs := false) only [hs, get43, set43, Nat.reduceLT, Nat.reduceEqDiff, if_true, if_false]
      | false =>
        cases g2 with
        | true =>
          simp (maxDischargeDepth := 60) (implicitDefEqProofs := false) only [h1, h3, hfa4, hld, hlen, b1, b2, hs, e1, e2, e3, e4, e5, l1, l2, hg1, hg2, exec_seq, exec_region, exec_cond, exec_block, exec_skip, exec_exit, exec_ret, ops_cons, ops_nil, ops_go, guardB_eq, guardT_some, dstOf_zero, dstOf_succ, Bool.not_true, Bool.not_false, op_bin, op_move, op_assign, op_pick, op_indexAddr, op_load, op_fieldAddr, op_len1, ev_tmp, ev_const, ofV_int, ofV_bool, of_bool, of_int, give_val, orThen_val, put_some, andThen_normal, andThen_ret, outOf_ret, get43, set43, onBool_bool, Bool.cond_true, Bool.cond_false, Nat.reduceLT, Nat.reduceEqDiff, if_true, if_false]
          refine hQ3 _ ?_
          simp (maxDischargeDepth := 60) (implicitDefEqProofs := false) only [hs, get43, set43, Nat.reduceLT, Nat.reduceEqDiff, if_true, if_false]
        | false =>
          simp (maxDischargeDepth := 60) (implicitDefEqProofs := false) only [h1, h3, hfa4, hld, hlen, b1, b2, ba, hs, e1, e2, e3, e4, e5, l1, l2, hg1, hg2, exec_seq, exec_region, exec_cond, exec_block, exec_skip, exec_exit, exec_ret, ops_cons, ops_nil, ops_go, guardB_eq, guardT_some, dstOf_zero, dstOf_succ, Bool.not_true, Bool.not_false, op_bin, op_move, op_assign, op_pick, op_indexAddr, op_load, op_fieldAddr, op_len1, ev_tmp, ev_const, ofV_int, ofV_bool, of_bool, of_int, give_val, orThen_val, put_some, andThen_normal, outOf_normal, get43, set43, onBool_bool, Bool.cond_true, Bool.cond_false, Nat.reduceLT, Nat.reduceEqDiff, if_true, if_false]
          refine hQ1 _ h20 ?_ ?_ ?_
          · simp (maxDischargeDepth := 60) (implicitDefEqProofs := false) only [hs, set43]
          · simp (maxDischargeDepth := 60) (implicitDefEqProofs := false) only [hs, h1, get43, set43, Nat.reduceLT, Nat.reduceEqDiff, if_false]
          · simp (maxDischargeDepth := 60) (implicitDefEqProofs := false) only [hs, get43, set43, Nat.reduceLT, Nat.reduceEqDiff, if_true, if_false]
    · rw [decide_eq_false h20] at b2
      simp (maxDischargeDepth := 60) (implicitDefEqProofs := false) only [h1, h3, hfa4, hld, hlen, b1, b2, hs, exec_seq, exec_region, exec_cond, exec_skip, exec_exit, ops_cons, ops_nil, ops_go, guardB_eq, guardT_some, dstOf_zero, dstOf_succ, Bool.not_true, op_bin, op_move, op_pick, op_load, op_fieldAddr, op_len1, ev_tmp, ev_const, ofV_int, ofV_bool, of_bool, of_int, give_val, orThen_val, put_some, andThen_normal, andThen_exit, get43, set43, onBool_bool, Bool.cond_true, Bool.cond_false, Nat.reduceLT, Nat.reduceEqDiff, if_true, if_false]
      refine hQ2 _ ?_ ?_
      · simp (maxDischargeDepth := 60) (implicitDefEqProofs := false) only [hs, set43]
      · simp (maxDischargeDepth := 60) (implicitDefEqProofs := false) only [hs, h1, get43, set43, Nat.reduceLT, Nat.reduceEqDiff, if_false]
  · rw [decide_eq_false hkn] at b1
    simp (maxDischargeDepth := 60) (implicitDefEqProofs := false) only [h1, h3, hfa4, hld, hlen, b1, hs, exec_seq, exec_region, exec_cond, exec_skip, exec_exit, ops_cons, ops_nil, ops_no, guardB_eq, guardT_some, dstOf_zero, dstOf_succ, Bool.not_true, op_bin, op_move, op_pick, op_load, op_fieldAddr, op_len1, ev_tmp, ev_const, ofV_bool, of_bool, of_int, give_val, orThen_val, put_some, andThen_normal, andThen_exit, get43, set43, onBool_bool, Bool.cond_false, Nat.reduceLT, Nat.reduceEqDiff, if_true, if_false]
    refine hQ2 _ ?_ ?_
    · simp (maxDischargeDepth := 60) (implicitDefEqProofs := false) only [hs, set43]
    · simp (maxDischargeDepth := 60) (implicitDefEqProofs := false) only [hs, h1, get43, set43, Nat.reduceLT, Nat.reduceEqDiff, if_false]

theorem sm_loop {ρ : Env} (hsl : OR.of ev H = .val ev H) (hs : Full 43 ρ) (h1 : ρ.get undefA 1 = .ptr h 0) (h3 : ρ.get undefA 3 = .int .i64 (.ofNat 0)) (hr : 20 < rounds) (Q : ER → Prop)
    (hQ2 : ∀ ρ', Full 43 ρ' → ρ'.get undefA 1 = .ptr h 0 → Q (.normal ρ' H)) (hQ3 : ∀ ρ', ρ'.get undefA 2 = .bool false → Q (.ret ρ' H)) : Q (execA T call rounds draw (.block 0 (.loop (smLoop tc tevs te ts ti))) ρ H) := by
  rw [exec_block, exec_loop]
  refine loop_any (fun k ρ => Full 43 ρ ∧ ρ.get undefA 1 = .ptr h 0 ∧ ρ.get undefA 3 = .int .i64 (.ofNat k)) (fun r => Q (r.outOf 0)) (n := 20) ?_ hr ρ ⟨hs, h1, h3⟩
  intro k ρ hk ⟨g1, g2, g3⟩
  refine sm_round hfa4 hld hlen hel hstr hsl hk g1 g2 g3 (fun r => (∃ ρ', r = .normal ρ' H ∧ k < 20 ∧ Full 43 ρ' ∧ ρ'.get undefA 1 = .ptr h 0 ∧ ρ'.get undefA 3 = .int .i64 (.ofNat (k + 1))) ∨ (Q (r.outOf 0) ∧ ∀ f, r.andThen f = r)) ?_ ?_ ?_
  · intro ρ' a b c d; exact .inl ⟨ρ', rfl, a, b, c, d⟩
  · intro ρ' a b; exact .inr ⟨by rw [outOf_exit]; exact hQ2 ρ' a b, fun _ => rfl⟩
  · intro ρ' a; exact .inr ⟨by rw [outOf_ret]; exact hQ3 ρ' a, fun _ => rfl⟩

theorem sm_all {s : List UInt8} (hsl : OR.of ev H = .val ev H) (hfa2 : fieldAddrA T tc (.ptr h 0) 2 H = .val (.ptr h 2) H) (hst : loadA T ts (.ptr h 2) H = .val (.str s) H)
    {ρ : Env} (hs : Full 43 ρ) (h1 : ρ.get undefA 1 = .ptr h 0) (hr : 20 < rounds) (Q : ER → Prop) (hQ : ∀ ρ' g, ρ'.get undefA 2 = .bool g → Q (.ret ρ' H)) :
    Q (execA T call rounds draw (.seq (.seq (.region 1 #[⟨(some 3), .assign (.const (.int .i64 (0))), 0, "", #[], none⟩] false) (.block 0 (.loop (smLoop tc tevs te ts ti)))) (smTail tc tevs ts ti)) ρ H) := by
  rw [exec_seq, exec_seq]
  simp (maxDischargeDepth := 60) (implicitDefEqProofs := false) only [exec_region, ops_cons, ops_nil, op_assign, ev_const, ofV_int, of_int, give_val, orThen_val, put_some, andThen_normal]
  refine sm_loop hfa4 hld hlen hel hstr hsl (hs.set _ _) ?_ ?_ hr (fun r => Q (r.andThen _)) ?_ ?_
  · rw [get43 hs (by decide), if_neg (by decide)]; exact h1
  · rw [get43 hs (by decide), if_pos rfl]; rfl
  · intro ρ' k1 k2
    show Q (execA T call rounds draw (smTail tc tevs ts ti) ρ' H)
    have l1 : lenA T ts (.str s) H = .val (.int .i64 (.ofNat s.length)) H := len_str hstr s
    obtain ⟨g1, hg1⟩ : ∃ g, binA T .leq ti (.int .i64 (.ofNat n)) (.int .i64 12) = .bool g := ⟨_, int_leq⟩
    obtain ⟨g2, hg2⟩ : ∃ g, binA T .leq ti (.int .i64 (.ofNat s.length)) (.int .i64 100) = .bool g := ⟨_, int_leq⟩
    unfold smTail
    cases g1 with
    | true =>
      simp (maxDischargeDepth := 60) (implicitDefEqProofs := false) only [k1, k2, hfa4, hfa2, hst, hld, hlen, l1, hg1, hg2, exec_seq, exec_region, exec_ret, ops_cons, ops_nil, ops_go, guardB_eq, guardT_some, dstOf_zero, dstOf_succ, Bool.not_true, op_bin, op_move, op_assign, op_pick, op_load, op_fieldAddr, op_len1, ev_tmp, ev_const, ofV_int, ofV_bool, of_bool, give_val, orThen_val, put_some, andThen_normal, get43, set43, onBool_bool, Bool.cond_true, Nat.reduceLT, Nat.reduceEqDiff, if_true, if_false]
      refine hQ _ g2 ?_
      simp (maxDischargeDepth := 60) (implicitDefEqProofs := false) only [k1, get43, set43, Nat.reduceLT, Nat.reduceEqDiff, if_true, if_false]
    | false =>
      simp (maxDischargeDepth := 60) (implicitDefEqProofs := false) only [k1, k2, hfa4, hld, hlen, hg1, exec_seq, exec_region, exec_ret, ops_cons, ops_nil, ops_no, guardB_eq, guardT_some, dstOf_zero, dstOf_succ, Bool.not_true, op_bin, op_move, op_assign, op_pick, op_load, op_fieldAddr, op_len1, ev_tmp, ev_const, ofV_int, ofV_bool, of_bool, give_val, orThen_val, put_some, andThen_normal, get43, set43, onBool_bool, Bool.cond_false, Nat.reduceLT, Nat.reduceEqDiff, if_true, if_false]
      refine hQ _ false ?_
      simp (maxDischargeDepth := 60) (implicitDefEqProofs := false) only [k1, get43, set43, Nat.reduceLT, Nat.reduceEqDiff, if_true, if_false]
  · intro ρ' k1; exact hQ ρ' false k1
end

theorem obj_new_old {H : Heap} {x : AObj} {o : Nat} (h : o ≠ H.next) : (H.new x).cells? o = H.cells? o := by
  unfold Heap.cells?
  rw [obj_new, if_neg h]; rfl
theorem obj_new_here {H : Heap} {cs : List AV} : (H.new (.cells cs none)).cells? H.next = .some cs none := cells?_some.2 ⟨by rw [obj_new, if_pos rfl], fun _ h => by cases h⟩

/-- WHAT THE MACHINE COMES TO: one of two answers, and one object. -/
theorem small_call {T : Tab} {S : Sums} {rounds n0 : Nat} {dr : Caller → List Oper → Env → Heap → ER} {H : Heap} {f : FuncId} {c : Code} {tc tevs te ts ti : TypeId} {kd tm ex : Int} {s : List UInt8} {ev : AV} {a b d : Int} {n : Nat}
    (hS : ∀ args H, S f args H = .no) (hf : T.fn f = .some 43 [.tmp 2] c) (hcode : bareC c = smAll tc tevs te ts ti)
    (hfa : ∀ o i k H, (i = 2 ∨ i = 4) → fieldAddrA T tc (.ptr o k) i H = .val (.ptr o (Nat.add k i)) H) (hfe : ∀ o i k H, (i = 1 ∨ i = 2) → fieldAddrA T te (.ptr o k) i H = .val (.ptr o (Nat.add k i)) H)
    (hkt : (T.kind ts).isString = true ∧ (T.kind ts).known = true ∧ T.agg ts = false) (hkl : (T.kind tevs).known = true ∧ T.agg tevs = false) (hr : 20 < rounds)
    (hev : (ev = .sl0 ∧ n = 0 ∧ (T.kind tevs).isSlice = true) ∨ ∃ o off cap e eb zc cs sh, ev = .sl o off n cap e 4 ∧ T.kind tevs = .slice 4 eb zc false ∧ o < H.next ∧ H.cells? o = .some cs sh ∧ ∀ k, k < n → ∃ s1 s2, lnth .bad cs (off + 4 * k + 1) = .str s1 ∧ lnth .bad cs (off + 4 * k + 2) = .str s2) :
    ∃ g, callA T S rounds dr (n0 + 1) f [.agg [.int .i64 kd, .int .i64 tm, .str s, .int .i64 ex, ev, .int .i64 a, .int .i64 b, .int .i64 d]] H =
      .ok (.bool g) (H.new (.cells [.int .i64 kd, .int .i64 tm, .str s, .int .i64 ex, ev, .int .i64 a, .int .i64 b, .int .i64 d] none)) := by
  generalize hcs : [AV.int .i64 kd, .int .i64 tm, .str s, .int .i64 ex, ev, .int .i64 a, .int .i64 b, .int .i64 d] = CS
  have hone : lall AV.single (AV.agg CS).cells = true := by
    subst hcs
    rcases hev with ⟨rfl, _⟩ | ⟨o, off, cap, e, eb, zc, cs, sh, rfl, _⟩ <;> rfl
  have hev0 : ∀ H : Heap, OR.of ev H = .val ev H := by
    intro H; rcases hev with ⟨rfl, _⟩ | ⟨o, off, cap, e, eb, zc, cs, sh, rfl, _⟩ <;> rfl
  have hc0 : (H.new (.cells CS none)).cells? H.next = .some CS none := obj_new_here
  have fin : ∀ r : ER, (∃ ρ' g, r = .ret ρ' (H.new (.cells CS none)) ∧ ρ'.get undefA 2 = .bool g) → ∃ g, endA T [.tmp 2] r = .ok (.bool g) (H.new (.cells CS none)) := by
    rintro r ⟨ρ', g, rfl, h2⟩
    refine ⟨g, ?_⟩
    show Option.casesOn (motive := fun _ => KR) (Option.casesOn (motive := fun _ => Option (List AV)) (some (ρ'.get undefA 2)) none fun v => some [v]) .fail (fun vs => .ok (oneOf vs) _) = _
    rw [h2]; rfl
  rw [call_some (hS _ _) hf (by show 1 ≤ 43; omega), ← exec_bare, hcode]
  apply fin
  have hs := init_full [AV.agg CS] 43
  have g0 : (initA [AV.agg CS] 43).get undefA 0 = .agg CS := by rw [init_get _ (by decide)]; rfl
  have hbox : ∀ ρ : Env, ρ.get undefA 0 = .agg CS → opB (.box tc (.tmp 0)) T ρ H = .val (.ptr H.next 0) (H.new (.cells CS none)) := fun ρ h => op_box tc (.tmp 0) (v := .agg CS) h rfl hone
  have hld4 : loadA T tevs (.ptr H.next 4) (H.new (.cells CS none)) = .val ev (H.new (.cells CS none)) := by
    rw [load_one hkl.1 hkl.2 hc0, ← hev0, ← hcs]; rfl
  have hld2 : loadA T ts (.ptr H.next 2) (H.new (.cells CS none)) = .val (.str s) (H.new (.cells CS none)) := by
    rw [load_one hkt.2.1 hkt.2.2 hc0, ← hcs]; rfl
  unfold smAll
  rw [exec_seq]
  simp (maxDischargeDepth := 60) (implicitDefEqProofs := false) only [exec_region, ops_cons, ops_nil, hbox, g0, op_assign, ev_const, ofV_bool, of_bool, give_val, orThen_val, put_some, andThen_normal]
  refine sm_all (T := T) (h := H.next) (n := n) (ev := ev) (s := s) (hfa _ 4 0 _ (.inr rfl)) hld4 ?_ ?_ hkt.1 (hev0 _) (hfa _ 2 0 _ (.inl rfl)) hld2 ((hs.set _ _).set _ _) ?_ hr (fun r => ∃ ρ' g, r = .ret ρ' (H.new (.cells CS none)) ∧ ρ'.get undefA 2 = .bool g) fun ρ' g h => ⟨ρ', g, rfl, h⟩
  · rcases hev with ⟨rfl, rfl, h⟩ | ⟨o, off, cap, e, eb, zc, cs, sh, rfl, h, _⟩
    · show cond (T.kind tevs).isSlice (goN 0 _) .fail = _
      rw [h]; rfl
    · exact len_sl (by rw [h]; rfl) _ _ _ _ _ _
  · intro k hk
    rcases hev with ⟨rfl, rfl, h⟩ | ⟨o, off, cap, e, eb, zc, cs, sh, rfl, h, ho, hcell, hel⟩
    · exact absurd hk (Nat.not_lt_zero _)
    · obtain ⟨s1, s2, q1, q2⟩ := hel k hk
      have hc' : (H.new (.cells CS none)).cells? o = .some cs sh := by rw [obj_new_old (by omega)]; exact hcell
      have ea : Nat.add off (Nat.mul k 4) = off + 4 * k := by show off + k * 4 = _; omega
      refine ⟨.ptr o (Nat.add off (Nat.mul k 4)), .ptr o (Nat.add (Nat.add off (Nat.mul k 4)) 1), .ptr o (Nat.add (Nat.add off (Nat.mul k 4)) 2), s1, s2, addr_sl h (by decide) hk, hfe _ 1 _ _ (.inl rfl), ?_, hfe _ 2 _ _ (.inr rfl), ?_⟩
      · rw [load_one hkt.2.1 hkt.2.2 hc', ea]; show OR.of (lnth .bad cs (off + 4 * k + 1)) _ = _; rw [q1]; rfl
      · rw [load_one hkt.2.1 hkt.2.2 hc', ea]; show OR.of (lnth .bad cs (off + 4 * k + 2)) _ = _; rw [q2]; rfl
  · rw [get43 (hs.set _ _) (by decide), if_neg (by decide), get43 hs (by decide), if_pos rfl]
end Go.Ai
