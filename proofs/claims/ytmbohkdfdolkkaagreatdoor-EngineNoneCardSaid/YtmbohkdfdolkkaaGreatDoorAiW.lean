/- Code stepped through by equations: each kind of code, each kind of operation; loops. -/
import Derived.Test.YtmbohkdfdolkkaaGreatDoorAiPeel
namespace Go.Ai
open Go

/-- What comes behind code. -/
noncomputable def ER.andThen (r : ER) (f : Env → Heap → ER) : ER := ER.casesOn r .fail (fun ρ H => f ρ H) (fun id ρ H => .exit id ρ H) (fun ρ H => .ret ρ H)
noncomputable def ER.outOf (id : Nat) (r : ER) : ER := ER.casesOn r .fail (fun ρ H => .normal ρ H) (fun j ρ H => cond (Nat.beq j id) (.normal ρ H) (.exit j ρ H)) (fun ρ H => .ret ρ H)
/-- What comes behind an operation. -/
noncomputable def OR.andThen (r : OR) (dst : Option Tmp) (call : Caller) (f : Env → Heap → ER) (ρ : Env) : ER :=
  OR.casesOn r .fail (fun v H => f (putA ρ dst v) H) (fun H => f (putA ρ dst undefA) H) (fun g args H => KR.casesOn (call g args H) .fail (fun v H => f (putA ρ dst v) H))
noncomputable def KR.andThen (r : KR) (dst : Option Tmp) (f : Env → Heap → ER) (ρ : Env) : ER := KR.casesOn r .fail (fun v H => f (putA ρ dst v) H)

section
variable {T : Tab} {call : Caller} {rounds : Nat} {draw : List Oper → Env → Heap → ER} {ρ ρ' : Env} {H H' : Heap}
theorem andThen_normal (f : Env → Heap → ER) : (ER.normal ρ H).andThen f = f ρ H := rfl
theorem andThen_exit (f : Env → Heap → ER) (id : Nat) : (ER.exit id ρ H).andThen f = .exit id ρ H := rfl
theorem andThen_ret (f : Env → Heap → ER) : (ER.ret ρ H).andThen f = .ret ρ H := rfl
theorem outOf_normal (id : Nat) : (ER.normal ρ H).outOf id = .normal ρ H := rfl
theorem outOf_ret (id : Nat) : (ER.ret ρ H).outOf id = .ret ρ H := rfl
theorem outOf_exit (id : Nat) : (ER.exit id ρ H).outOf id = .normal ρ H := by
  show cond (Nat.beq id id) _ _ = _
  rw [beq_t rfl]; rfl
theorem outOf_other {id j : Nat} (h : j ≠ id) : (ER.exit j ρ H).outOf id = .exit j ρ H := by
  show cond (Nat.beq j id) _ _ = _
  rw [beq_f h]; rfl
theorem exec_skip : execA T call rounds draw .skip ρ H = .normal ρ H := rfl
theorem exec_seq (a b : Code) : execA T call rounds draw (.seq a b) ρ H = (execA T call rounds draw a ρ H).andThen (execA T call rounds draw b) := rfl
theorem exec_region (id : Nat) (ops : Array Oper) : execA T call rounds draw (.region id ops false) ρ H = opsA T call ops.toList ops.toList ρ H := rfl
theorem exec_draw (id : Nat) (ops : Array Oper) : execA T call rounds draw (.region id ops true) ρ H = draw ops.toList ρ H := rfl
theorem exec_cond (x : Operand) (a b : Code) : execA T call rounds draw (.cond x a b) ρ H = (ev x ρ).onBool .fail fun g => cond g (execA T call rounds draw a ρ H) (execA T call rounds draw b ρ H) := rfl
theorem exec_block (id : Nat) (c : Code) : execA T call rounds draw (.block id c) ρ H = (execA T call rounds draw c ρ H).outOf id := rfl
theorem exec_loop (c : Code) : execA T call rounds draw (.loop c) ρ H = loopA (execA T call rounds draw c) rounds ρ H := rfl
theorem exec_exit (id : Nat) : execA T call rounds draw (.exit id) ρ H = .exit id ρ H := rfl
theorem exec_ret : execA T call rounds draw .ret ρ H = .ret ρ H := rfl
theorem loopA_succ (body : Env → Heap → ER) (n : Nat) : loopA body (n + 1) ρ H = (body ρ H).andThen (loopA body n) := rfl
theorem onBool_bool {α : Type} (d : α) (f : Bool → α) (b : Bool) : (AV.bool b).onBool d f = f b := rfl

theorem ops_nil (ops : List Oper) : opsA T call ops [] ρ H = .normal ρ H := rfl
theorem ops_cons (ops l : List Oper) (dst : Option Tmp) (op : Op) (ty : TypeId) (pos : String) (after : Array Edge) :
    opsA T call ops (⟨dst, op, ty, pos, after, none⟩ :: l) ρ H = (opB op T ρ H).andThen dst call (opsA T call ops l) ρ := rfl
theorem orThen_val (dst : Option Tmp) (f : Env → Heap → ER) (v : AV) : (OR.val v H).andThen dst call f ρ = f (putA ρ dst v) H := rfl
theorem orThen_skip (dst : Option Tmp) (f : Env → Heap → ER) : (OR.skip H).andThen dst call f ρ = f (putA ρ dst undefA) H := rfl
theorem orThen_call (dst : Option Tmp) (f : Env → Heap → ER) (g : FuncId) (args : List AV) : (OR.call g args H).andThen dst call f ρ = (call g args H).andThen dst f ρ := rfl
theorem krThen_ok (dst : Option Tmp) (f : Env → Heap → ER) (v : AV) : (KR.ok v H).andThen dst f ρ = f (putA ρ dst v) H := rfl
theorem put_some (d : Tmp) (v : AV) : putA ρ (some d) v = ρ.set d v := rfl
theorem put_none (v : AV) : putA ρ none v = ρ := rfl

theorem ev_tmp (t : Tmp) : ev (.tmp t) ρ = ρ.get undefA t := rfl
theorem ev_const (v : Value) : ev (.const v) ρ = ofValue v := rfl
theorem ev_func (f : FuncId) : ev (.func f) ρ = .fn f [] [] := rfl

/-- A value, or nothing. -/
noncomputable def OR.give (r : OR) : OR := OR.casesOn r .fail (fun v H => .val v H) (fun _ => .fail) (fun _ _ _ => .fail)
theorem give_val (v : AV) : (OR.val v H).give = .val v H := rfl
theorem of_bool (b : Bool) : OR.of (.bool b) H = .val (.bool b) H := rfl
theorem of_int (k : IntKind) (n : Int) : OR.of (.int k n) H = .val (.int k n) H := rfl
theorem of_str (s : List UInt8) : OR.of (.str s) H = .val (.str s) H := rfl
theorem of_ptr0 : OR.of .ptr0 H = .val .ptr0 H := rfl
theorem of_ptr (o a : Nat) : OR.of (.ptr o a) H = .val (.ptr o a) H := rfl
theorem of_sl0 : OR.of .sl0 H = .val .sl0 H := rfl
theorem of_sl (o a l c : Nat) (e : Bool) (s : Nat) : OR.of (.sl o a l c e s) H = .val (.sl o a l c e s) H := rfl
theorem of_agg (l : List AV) : OR.of (.agg l) H = .val (.agg l) H := rfl
theorem of_tup (l : List AV) : OR.of (.tup l) H = .val (.tup l) H := rfl
theorem of_map (o : Nat) : OR.of (.map o) H = .val (.map o) H := rfl
theorem of_float (k : FloatKind) (b : Nat) : OR.of (.float k b) H = .val (.float k b) H := rfl

theorem of_give (v : AV) : (OR.of v H).give = OR.of v H := by cases v <;> rfl
theorem op_move (x : Operand) : opB (.move x) T ρ H = (OR.of (ev x ρ) H).give := rfl
theorem op_assign (x : Operand) : opB (.assign x) T ρ H = (OR.of (ev x ρ) H).give := rfl
theorem op_bin (op : BinOp) (t : TypeId) (x y : Operand) (yt : TypeId) : opB (.binOp op t x y yt) T ρ H = (OR.of (binA T op t (ev x ρ) (ev y ρ)) H).give := rfl
theorem op_index (t : TypeId) (x i : Operand) : opB (.index t x i) T ρ H = (indexA T t (ev x ρ) (ev i ρ) H).give := rfl
theorem op_indexAddr (t : TypeId) (x i : Operand) : opB (.indexAddr t x i) T ρ H = (indexAddrA T t (ev x ρ) (ev i ρ) H).give := rfl
theorem op_load (t : TypeId) (a : Operand) : opB (.load t a) T ρ H = (loadA T t (ev a ρ) H).give := rfl
theorem op_convert (s d : TypeId) (x : Operand) : opB (.convert s d x) T ρ H = (convertA T s d (ev x ρ) H).give := rfl
theorem op_len (c : Call) (x : Operand) (t : TypeId) (hc : c = ⟨.builtin .len, #[x], #[t]⟩) : opB (.call c) T ρ H = (lenA T t (ev x ρ) H).give := by
  subst hc
  show OR.casesOn (motive := fun _ => OR) (OR.casesOn (motive := fun _ => OR) (lenA T t (ev x ρ) H) .fail (fun v H => .val v H) (fun _ => .fail) (fun _ _ _ => .fail)) .fail _ _ _ = _
  cases lenA T t (ev x ρ) H <;> rfl
end

/-- Integers at the machine's operators. -/
theorem int_and {T : Tab} {t : TypeId} {k : IntKind} {a b : Nat} (ha : a < lim k) (hb : b < lim k) : binA T .and t (.int k (.ofNat a)) (.int k (.ofNat b)) = .int k (.ofNat (Nat.land a b)) := by
  show cond (keq k k) (cond (cond (Nat.blt a (lim k)) (Nat.blt b (lim k)) false) _ _) _ = _
  rw [keq_eq, blt_iff.2 ha, blt_iff.2 hb]; simp
theorem int_xor {T : Tab} {t : TypeId} {k : IntKind} {a b : Nat} (ha : a < lim k) (hb : b < lim k) : binA T .xor t (.int k (.ofNat a)) (.int k (.ofNat b)) = .int k (.ofNat (Nat.xor a b)) := by
  show cond (keq k k) (cond (cond (Nat.blt a (lim k)) (Nat.blt b (lim k)) false) _ _) _ = _
  rw [keq_eq, blt_iff.2 ha, blt_iff.2 hb]; simp
theorem int_shr {T : Tab} {t : TypeId} {k j : IntKind} {a n : Nat} (hn : n ≤ k.bits) : binA T .shr t (.int k (.ofNat a)) (.int j (.ofNat n)) = .int k (.ofNat (Nat.shiftRight a n)) := by
  show AV.int k (.ofNat (Nat.shiftRight a (cond (Nat.ble n k.bits) n k.bits))) = _
  rw [ble_iff.2 hn]; rfl
theorem int_eql {T : Tab} {t : TypeId} {k : IntKind} {a b : Int} : binA T .eql t (.int k a) (.int k b) = .bool (decide (a = b)) := by
  show cond (keq k k) (AV.bool (ieq a b)) _ = _
  rw [keq_eq, ieq_eq]; simp
theorem int_lss {T : Tab} {t : TypeId} {k : IntKind} {a b : Int} : binA T .lss t (.int k a) (.int k b) = .bool (decide (a < b)) := by
  show cond (keq k k) (AV.bool (ilt a b)) _ = _
  rw [keq_eq, ilt_eq]; simp
theorem int_add {T : Tab} {t : TypeId} {k : IntKind} {a b : Nat} (h : a + b < lim k) : binA T .add t (.int k (.ofNat a)) (.int k (.ofNat b)) = .int k (.ofNat (a + b)) := by
  show cond (keq k k) (AV.int k (fwrap k (.ofNat (a + b)))) _ = _
  rw [keq_eq]
  show cond (decide (k = k)) (AV.int k (cond (Nat.blt (a + b) (lim k)) _ _)) _ = _
  rw [blt_iff.2 h]; simp


/-- An operation without what the machine does not look at. -/
def bareO (o : Oper) : Oper := ⟨o.dst, o.op, 0, "", #[], o.guard⟩
def bareC : Code → Code
  | .region id ops true => .region id ops true
  | .region id ops false => .region id (ops.toList.map bareO).toArray false
  | .seq a b => .seq (bareC a) (bareC b)
  | .cond c a b => .cond c (bareC a) (bareC b)
  | .block id b => .block id (bareC b)
  | .loop b => .loop (bareC b)
  | c => c
section
variable {T : Tab} {call : Caller} {rounds : Nat} {draw : List Oper → Env → Heap → ER}
theorem dstOf_bare (ops : List Oper) : ∀ j, dstOf (ops.map bareO) j = dstOf ops j := by
  induction ops with
  | nil => intro j; rfl
  | cons o l ih =>
    intro j
    show cond (Nat.beq j 0) o.dst (dstOf (l.map bareO) (Nat.sub j 1)) = cond (Nat.beq j 0) o.dst (dstOf l (Nat.sub j 1))
    rw [ih]
theorem wanted_bare {α : Type} (d yes no : α) (g : Option (Nat × Bool)) (ops : List Oper) (ρ : Env) : wantedA d yes no g (ops.map bareO) ρ = wantedA d yes no g ops ρ := by
  cases g with
  | none => rfl
  | some jw =>
    show Option.casesOn (motive := fun _ => α) (dstOf (ops.map bareO) jw.1) no _ = Option.casesOn (motive := fun _ => α) (dstOf ops jw.1) no _
    rw [dstOf_bare]
theorem ops_bare (ops : List Oper) : ∀ (l : List Oper), opsA T call (ops.map bareO) (l.map bareO) = opsA T call ops l := by
  intro l
  induction l with
  | nil => rfl
  | cons o l ih =>
    funext ρ H
    show wantedA ER.fail (OR.casesOn (motive := fun _ => ER) (opB o.op T ρ H) .fail (fun v H => opsA T call (ops.map bareO) (l.map bareO) (putA ρ o.dst v) H) (fun H => opsA T call (ops.map bareO) (l.map bareO) (putA ρ o.dst undefA) H)
        (fun f args H => KR.casesOn (motive := fun _ => ER) (call f args H) .fail (fun v H => opsA T call (ops.map bareO) (l.map bareO) (putA ρ o.dst v) H)))
      (opsA T call (ops.map bareO) (l.map bareO) (putA ρ o.dst undefA) H) o.guard (ops.map bareO) ρ = _
    rw [ih, wanted_bare]
    rfl
theorem exec_bare : ∀ (c : Code), execA T call rounds draw (bareC c) = execA T call rounds draw c
  | .region _ _ true => rfl
  | .region id ops false => by
    funext ρ H
    show opsA T call ((ops.toList.map bareO).toArray).toList ((ops.toList.map bareO).toArray).toList ρ H = opsA T call ops.toList ops.toList ρ H
    rw [ops_bare]
  | .seq a b => by
    funext ρ H
    show (execA T call rounds draw (bareC a) ρ H).andThen (execA T call rounds draw (bareC b)) = (execA T call rounds draw a ρ H).andThen (execA T call rounds draw b)
    rw [exec_bare a, exec_bare b]
  | .cond x a b => by
    funext ρ H
    show ((ev x ρ).onBool ER.fail fun g => cond g (execA T call rounds draw (bareC a) ρ H) (execA T call rounds draw (bareC b) ρ H)) = ((ev x ρ).onBool ER.fail fun g => cond g (execA T call rounds draw a ρ H) (execA T call rounds draw b ρ H))
    rw [exec_bare a, exec_bare b]
  | .block id b => by
    funext ρ H
    show (execA T call rounds draw (bareC b) ρ H).outOf id = (execA T call rounds draw b ρ H).outOf id
    rw [exec_bare b]
  | .loop b => by
    funext ρ H
    show loopA (execA T call rounds draw (bareC b)) rounds ρ H = loopA (execA T call rounds draw b) rounds ρ H
    rw [exec_bare b]
  | .skip => rfl
  | .rangeFunc _ _ _ _ => rfl
  | .exit _ => rfl
  | .scope _ => rfl
  | .label _ => rfl
  | .goto _ => rfl
  | .ret => rfl
  | .refuse _ => rfl
end

/-- A loop that goes round n times. -/
theorem loop_rounds {body : Env → Heap → ER} {H : Heap} (I : Nat → Env → Prop) {r : Env → ER} {n rounds : Nat}
    (step : ∀ k, k < n → ∀ ρ, I k ρ → ∃ ρ', body ρ H = .normal ρ' H ∧ I (k + 1) ρ') (last : ∀ ρ, I n ρ → ∃ ρ', body ρ H = r ρ' ∧ I n ρ') (hr : ∀ ρ f, (r ρ).andThen f = r ρ) (hn : n < rounds) :
    ∀ ρ, I 0 ρ → ∃ ρ', loopA body rounds ρ H = r ρ' ∧ I n ρ' := by
  have go : ∀ k, k ≤ n → ∀ m, k < m → ∀ ρ, I (n - k) ρ → ∃ ρ', loopA body m ρ H = r ρ' ∧ I n ρ' := by
    intro k
    induction k with
    | zero =>
      intro _ m hm ρ hI
      obtain ⟨m, rfl⟩ : ∃ j, m = j + 1 := ⟨m - 1, by omega⟩
      obtain ⟨ρ', h1, h2⟩ := last ρ hI
      exact ⟨ρ', by rw [loopA_succ, h1, hr], h2⟩
    | succ k ih =>
      intro hk m hm ρ hI
      obtain ⟨m, rfl⟩ : ∃ j, m = j + 1 := ⟨m - 1, by omega⟩
      obtain ⟨ρ', h1, h2⟩ := step (n - (k + 1)) (by omega) ρ hI
      have e : n - (k + 1) + 1 = n - k := by omega
      rw [e] at h2
      obtain ⟨ρ'', h3, h4⟩ := ih (by omega) m (by omega) ρ' h2
      exact ⟨ρ'', by rw [loopA_succ, h1]; exact h3, h4⟩
  intro ρ h0
  have := go n (Nat.le_refl _) rounds hn ρ
  rw [Nat.sub_self] at this
  exact this h0
end Go.Ai
