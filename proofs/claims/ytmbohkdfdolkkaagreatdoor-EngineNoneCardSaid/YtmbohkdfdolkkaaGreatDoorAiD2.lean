/- Operations that only give; operations that make one object. -/
import Derived.Test.YtmbohkdfdolkkaaGreatDoorAiD1
namespace Go.Ai
open Go
section
variable {P : Program} {T : Tab} {m : Mp}

/-- It gives a value, and memory is as it was. -/
def VO (H : Heap) (r : OR) : Prop := r = .fail ∨ ∃ v, r = .val v H

theorem VO.fail {H : Heap} : VO H .fail := .inl rfl
theorem VO.val {H : Heap} {v : AV} : VO H (.val v H) := .inr ⟨v, rfl⟩
theorem VO.of {H : Heap} {v : AV} : VO H (OR.of v H) := by
  rcases OR.of_cases v H with ⟨_, h⟩ | ⟨_, h⟩ <;> rw [h]
  · exact .fail
  · exact .val
theorem VO.cond {H : Heap} {b : Bool} {x y : OR} (hx : VO H x) (hy : VO H y) : VO H (cond b x y) := by cases b <;> assumption
theorem VO.onSlice {H : Heap} {k : TK} {f : Nat → Nat → List AV → Bool → OR} (h : ∀ a b c d, VO H (f a b c d)) : VO H (k.onSlice .fail f) := by cases k <;> first | exact .fail | exact h _ _ _ _
theorem VO.onStruct {H : Heap} {k : TK} {f : List (Nat × Nat × Bool) → OR} (h : ∀ a, VO H (f a)) : VO H (k.onStruct .fail f) := by cases k <;> first | exact .fail | exact h _
theorem VO.onArray {H : Heap} {k : TK} {f : Nat → Nat → Bool → OR} (h : ∀ a b c, VO H (f a b c)) : VO H (k.onArray .fail f) := by cases k <;> first | exact .fail | exact h _ _ _
theorem VO.onMapK {H : Heap} {k : TK} {f : Bool → Bool → AV → OR} (h : ∀ a b c, VO H (f a b c)) : VO H (k.onMap .fail f) := by cases k <;> first | exact .fail | exact h _ _ _
theorem VO.natOf {H : Heap} {v : AV} {f : Nat → OR} (h : ∀ n, VO H (f n)) : VO H (natOf .fail f v) := by
  cases v <;> try (exact .fail)
  rename_i k n
  cases n
  · exact h _
  · exact .fail
theorem VO.onPtr {H : Heap} {v : AV} {f : Nat → Nat → OR} (h : ∀ a b, VO H (f a b)) : VO H (v.onPtr .fail f) := by cases v <;> first | exact .fail | exact h _ _
theorem VO.onAgg {H : Heap} {v : AV} {f : List AV → OR} (h : ∀ a, VO H (f a)) : VO H (v.onAgg .fail f) := by cases v <;> first | exact .fail | exact h _
theorem VO.onTup {H : Heap} {v : AV} {f : List AV → OR} (h : ∀ a, VO H (f a)) : VO H (v.onTup .fail f) := by cases v <;> first | exact .fail | exact h _
theorem VO.onBool {H : Heap} {v : AV} {f : Bool → OR} (h : ∀ a, VO H (f a)) : VO H (v.onBool .fail f) := by cases v <;> first | exact .fail | exact h _
theorem VO.cr {H : Heap} {x : CR} {f : List AV → Option (Nat × Nat) → OR} (h : ∀ a b, VO H (f a b)) : VO H (CR.casesOn (motive := fun _ => OR) x .fail f) := by cases x <;> first | exact .fail | exact h _ _
theorem VO.opt {α : Type} {H : Heap} {x : Option α} {f : α → OR} (h : ∀ a, VO H (f a)) : VO H (Option.casesOn (motive := fun _ => OR) x .fail f) := by cases x <;> first | exact .fail | exact h _
theorem VO.fr {H : Heap} {x : FR} {a : OR} {f : Nat → AV → OR} (ha : VO H a) (h : ∀ i v, VO H (f i v)) : VO H (FR.casesOn (motive := fun _ => OR) x .fail a f) := by cases x <;> first | exact .fail | exact ha | exact h _ _
theorem VO.bound {H : Heap} {x : Option Operand} {e : Nat} {ρ : Env} {f : Nat → OR} (h : ∀ n, VO H (f n)) : VO H (Ai.bound .fail x e ρ f) := by
  cases x
  · exact h _
  · exact VO.natOf h
theorem VO.args1 {H : Heap} {l : List AV} {f : AV → OR} (h : ∀ x, VO H (f x)) : VO H (Ai.args1 .fail f l) := by
  match l with
  | [] => exact .fail
  | [x] => exact h x
  | _ :: _ :: _ => exact .fail
theorem VO.lst {α : Type} {H : Heap} {l : List α} {f : α → List α → OR} (h : ∀ x y, VO H (f x y)) : VO H (List.casesOn (motive := fun _ => OR) l .fail f) := by
  cases l
  · exact .fail
  · exact h _ _

theorem VO.load {H : Heap} {t : TypeId} {a : AV} : VO H (loadA T t a H) := VO.cond (VO.onPtr fun _ _ => VO.cr fun _ _ => VO.of) VO.fail
theorem VO.len {H : Heap} {t : TypeId} {a : AV} : VO H (lenA T t a H) := by
  unfold lenA
  cases a <;> first | exact .fail | exact VO.cond .val .fail | exact VO.cond (VO.opt fun _ => .val) .fail
theorem VO.cap {H : Heap} {t : TypeId} {a : AV} : VO H (capA T t a H) := by
  unfold capA
  refine VO.cond ?_ .fail
  cases a <;> first | exact .fail | exact .val | exact VO.cond .val .fail
theorem VO.lookup {H : Heap} {t : TypeId} {a k : AV} {ok : Bool} : VO H (lookupA T t a k ok H) := by
  unfold lookupA
  refine VO.onMapK fun _ _ _ => VO.cond ?_ .fail
  cases a <;> first | exact .fail | exact VO.cond .val .of | exact VO.opt fun _ => VO.fr (VO.cond .val .of) fun _ _ => VO.cond .val .of
theorem VO.slice {H : Heap} {t : TypeId} {x : Operand} {lo hi mx : Option Operand} {ρ : Env} : VO H (sliceA T t x lo hi mx ρ H) := by
  unfold sliceA
  generalize ev x ρ = a
  cases a <;> try (exact .fail)
  · refine VO.cond ?_ .fail
    cases mx
    · exact VO.bound fun _ => VO.bound fun _ => VO.cond .val .fail
    · exact .fail
  · exact VO.onArray fun _ _ _ => VO.bound fun _ => VO.bound fun _ => VO.bound fun _ => VO.cond (VO.cr fun _ _ => VO.cond .val .fail) .fail
  · exact VO.cond (VO.bound fun _ => VO.bound fun _ => VO.bound fun _ => VO.cond .val .fail) .fail
  · exact VO.onSlice fun _ _ _ _ => VO.cond (VO.bound fun _ => VO.bound fun _ => VO.bound fun _ => VO.cond .val .fail) .fail
theorem VO.fieldAddr {H : Heap} {t : TypeId} {x : AV} {f : Nat} : VO H (fieldAddrA T t x f H) := VO.onStruct fun _ => VO.opt fun _ => VO.cond .fail (VO.onPtr fun _ _ => .val)
theorem VO.field {H : Heap} {t : TypeId} {x : AV} {f : Nat} : VO H (fieldA T t x f H) := VO.onStruct fun _ => VO.cond (VO.onAgg fun _ => .of) .fail
theorem VO.indexAddr {H : Heap} {t : TypeId} {x i : AV} : VO H (indexAddrA T t x i H) := by
  unfold indexAddrA
  refine VO.natOf fun n => ?_
  cases x <;> first | exact .fail | exact VO.onArray fun _ _ _ => VO.cond .val .fail | exact VO.onSlice fun _ _ _ _ => VO.cond .val .fail
theorem VO.index {H : Heap} {t : TypeId} {x i : AV} : VO H (indexA T t x i H) := by
  unfold indexA
  refine VO.natOf fun n => ?_
  cases x <;> first | exact .fail | exact VO.cond .val .fail | exact VO.onArray fun _ _ _ => VO.cond .of .fail

theorem VO.wrap1 {H : Heap} {r : OR} (h : VO H r) : VO H (OR.casesOn (motive := fun _ => OR) r .fail (fun v H => .val v H) (fun _ => .fail) (fun _ _ _ => .fail)) := by
  rcases h with rfl | ⟨v, rfl⟩
  · exact .fail
  · exact .val
theorem VO.wrap3 {H : Heap} {r : OR} (h : VO H r) : VO H (OR.casesOn (motive := fun _ => OR) r .fail (fun v H => .val v H) (fun _ => .fail) (fun f l H => .call f l H)) := by
  rcases h with rfl | ⟨v, rfl⟩
  · exact .fail
  · exact .val

theorem ne0 {n : Nat} (h : n = 0) (hb : Nat.beq n 0 = false) : False := absurd h (Nat.ne_of_beq_eq_false hb)
theorem ne1 {n : Nat} (h : n = 1) (hb : Nat.beq n 1 = false) : False := absurd h (Nat.ne_of_beq_eq_false hb)

theorem opB_gives {op : Op} (h : opC op = 0) (ρ : Env) (H : Heap) : VO H (opB op T ρ H) := by
  cases op with
  | move x => exact VO.wrap1 (r := OR.of (ev x ρ) H) .of
  | assign x => exact VO.wrap1 (r := OR.of (ev x ρ) H) .of
  | pick c a b => exact VO.wrap1 (r := (ev c ρ).onBool .fail fun t => OR.of (cond t (ev a ρ) (ev b ρ)) H) (VO.onBool fun _ => .of)
  | build t ps =>
    refine VO.wrap1 (r := opA (.build t ps) T ρ H) ?_
    dsimp only [opA]
    exact VO.onAgg fun _ => VO.opt fun _ => .val
  | load t a => exact VO.wrap1 (r := loadA T t (ev a ρ) H) .load
  | nilCheck x =>
    rw [nil_eq]
    refine VO.wrap1 ?_
    cases ev x ρ <;> first | exact .fail | exact .val
  | binOp op t x y yt => exact VO.wrap1 (r := OR.of (binA T op t (ev x ρ) (ev y ρ)) H) .of
  | unOp op t x => exact VO.wrap1 (r := OR.of (unA op (ev x ρ)) H) .of
  | makeFunc fn a b =>
    cases fn with
    | func f => exact VO.wrap1 (r := .val (.fn f (evs a.toList ρ) (evs b.toList ρ)) H) .val
    | _ => exact .fail
  | slice t x lo hi mx => exact VO.wrap1 (r := sliceA T t x lo hi mx ρ H) .slice
  | fieldAddr t x f => exact VO.wrap1 (r := fieldAddrA T t (ev x ρ) f H) .fieldAddr
  | field t x f => exact VO.wrap1 (r := fieldA T t (ev x ρ) f H) .field
  | indexAddr t x i => exact VO.wrap1 (r := indexAddrA T t (ev x ρ) (ev i ρ) H) .indexAddr
  | index t x i => exact VO.wrap1 (r := indexA T t (ev x ρ) (ev i ρ) H) .index
  | lookup t x k ok => exact VO.wrap1 (r := lookupA T t (ev x ρ) (ev k ρ) ok H) .lookup
  | extract t i => exact VO.wrap1 (r := (ev t ρ).onTup .fail fun vs => cond (Nat.blt i (llen vs)) (OR.of (lnth .bad vs i) H) .fail) (VO.onTup fun _ => VO.cond .of .fail)
  | call c =>
    obtain ⟨callee, as, ats⟩ := c
    cases callee with
    | value f => exact (ne0 h rfl).elim
    | invoke _ _ => exact (ne0 h rfl).elim
    | builtin b =>
      refine VO.wrap3 (r := OR.casesOn (motive := fun _ => OR) (builtinA (bk b) T ats.toList (evs as.toList ρ) H) .fail (fun v H => .val v H) (fun _ => .fail) (fun _ _ _ => .fail)) (VO.wrap1 ?_)
      have h : BK.casesOn (motive := fun _ => Nat) (bk b) 0 0 2 2 2 2 0 0 2 = 0 := h
      generalize bk b = k at h
      cases k with
      | len => exact VO.args1 fun x => VO.lst fun t _ => .len
      | cap => exact VO.args1 fun x => VO.lst fun t _ => .cap
      | min => exact VO.lst fun x l => .of
      | max => exact VO.lst fun x l => .of
      | _ => exact (ne0 h rfl).elim
  | _ => exact (ne0 h rfl).elim

/-- It makes one object. -/
def New (H : Heap) (v : AV) (H' : Heap) : Prop := (∃ X, (∀ cs p, X ≠ .cells cs (some p)) ∧ X ≠ .none ∧ H' = H.new X) ∨ ∃ cs, H' = H.newRow cs

theorem wrapN {H : Heap} {r r' : OR} (h : r = .fail ∨ ∃ v H', r = .val v H' ∧ New H v H') (hr : r' = OR.casesOn (motive := fun _ => OR) r .fail (fun v H => .val v H) (fun _ => .fail) (fun _ _ _ => .fail)) :
    r' = .fail ∨ ∃ v H', r' = .val v H' ∧ New H v H' := by
  subst hr
  rcases h with rfl | ⟨v, H', rfl, h⟩
  · exact .inl rfl
  · exact .inr ⟨v, H', rfl, h⟩

def NV (H : Heap) (r : OR) : Prop := r = .fail ∨ ∃ v H', r = .val v H' ∧ New H v H'
theorem NV.fail {H : Heap} : NV H .fail := .inl rfl
theorem NV.cond {H : Heap} {b : Bool} {x y : OR} (hx : NV H x) (hy : NV H y) : NV H (cond b x y) := by cases b <;> assumption
theorem NV.onSlice {H : Heap} {k : TK} {f : Nat → Nat → List AV → Bool → OR} (h : ∀ a b c d, NV H (f a b c d)) : NV H (k.onSlice .fail f) := by cases k <;> first | exact .fail | exact h _ _ _ _
theorem NV.natOf {H : Heap} {v : AV} {f : Nat → OR} (h : ∀ n, NV H (f n)) : NV H (natOf .fail f v) := by
  cases v <;> try (exact .fail)
  rename_i k n
  cases n
  · exact h _
  · exact .fail
theorem NV.opt {α : Type} {H : Heap} {x : Option α} {f : α → OR} (h : ∀ a, NV H (f a)) : NV H (Option.casesOn (motive := fun _ => OR) x .fail f) := by cases x <;> first | exact .fail | exact h _
theorem NV.ofOR {H : Heap} {z : AV} {f : AV → Heap → OR} (h : ∀ v K, NV H (f v K)) : NV H (OR.casesOn (motive := fun _ => OR) (OR.of z H) .fail f (fun _ => .fail) (fun _ _ _ => .fail)) := by
  rcases OR.of_cases z H with ⟨_, e⟩ | ⟨_, e⟩ <;> rw [e]
  · exact .fail
  · exact h _ _
theorem NV.new {H : Heap} {v : AV} {X : AObj} (hX : ∀ cs p, X ≠ .cells cs (some p)) (hn : X ≠ .none) : NV H (.val v (H.new X)) := .inr ⟨_, _, rfl, .inl ⟨X, hX, hn, rfl⟩⟩
theorem NV.newRow {H : Heap} {v : AV} {cs : List AV} : NV H (.val v (H.newRow cs)) := .inr ⟨_, _, rfl, .inr ⟨cs, rfl⟩⟩

theorem opB_news {op : Op} (h : opC op = 1) (ρ : Env) (H : Heap) : NV H (opB op T ρ H) := by
  cases op with
  | alloc e =>
    refine wrapN (r := opA (.alloc e) T ρ H) ?_ rfl
    exact NV.ofOR (f := fun z _ => .val (.ptr H.next 0) (H.new (.cells z.cells none))) fun _ _ => NV.new (by simp) (by simp)
  | box e x =>
    refine wrapN (r := opA (.box e x) T ρ H) ?_ rfl
    exact NV.ofOR (f := fun v _ => cond (lall AV.single v.cells) (.val (.ptr H.next 0) (H.new (.cells v.cells none))) .fail) fun _ _ => NV.cond (NV.new (by simp) (by simp)) .fail
  | buildSlice t n ps =>
    refine wrapN (r := opA (.buildSlice t n ps) T ρ H) ?_ rfl
    exact NV.onSlice fun _ _ _ _ => NV.cond (NV.opt fun _ => NV.newRow) .fail
  | makeMap t r =>
    cases r with
    | none => exact wrapN (r := .val (.map H.next) (H.new (.map []))) (NV.new (by simp) (by simp)) rfl
    | some _ => exact .fail
  | makeSlice t l c =>
    refine wrapN (r := makeSliceA T t (ev l ρ) (ev c ρ) H) ?_ rfl
    exact NV.onSlice fun _ _ _ _ => NV.natOf fun _ => NV.natOf fun _ => NV.cond NV.newRow .fail
  | call c =>
    obtain ⟨callee, as, ats⟩ := c
    cases callee with
    | value f => exact (ne1 h rfl).elim
    | invoke _ _ => exact (ne1 h rfl).elim
    | builtin b =>
      have h : BK.casesOn (motive := fun _ => Nat) (bk b) 0 0 2 2 2 2 0 0 2 = 1 := h
      generalize bk b = k at h
      cases k <;> exact (ne1 h rfl).elim
  | _ => exact (ne1 h rfl).elim

/-- In the world, too. -/
theorem opB_makes (hT : Fits T P) {op : Op} (h : opC op = 1) {ρ : Env} {H H' : Heap} {w : World} {σ : Operand → Value} (hσ : ∀ x, VR m (ev x ρ) (σ x)) {v : AV} (he : opB op T ρ H = .val v H') (o : Oper) (ho : o.op = op) :
    ∃ v' w' N B, (execOp σ o).run P w = .ok (.value v') w' ∧ Pushed w w' B ∧ VR (m.add H.next (w.heap.size, N)) v v' ∧
      ((∃ X, (∀ cs p, X ≠ .cells cs (some p)) ∧ H' = H.new X ∧ Fits1 m N B X) ∨ ∃ cs, H' = H.newRow cs ∧ Fits1 m N B (.cells cs (some (H.next, 0)))) := by
  obtain ⟨dst, op', type, pos, after, guard⟩ := o
  subst ho
  have fin : ∀ {s : Sem Value} {r : OR}, (∀ v H', r = .val v H' → Makes P m H w s v H') → OR.casesOn (motive := fun _ => OR) r .fail (fun v H => .val v H) (fun _ => .fail) (fun _ _ _ => .fail) = .val v H' →
      ∃ v' w' N B, (do let v ← s; pure (Next.value v) : Sem Next).run P w = .ok (.value v') w' ∧ Pushed w w' B ∧ VR (m.add H.next (w.heap.size, N)) v v' ∧
      ((∃ X, (∀ cs p, X ≠ .cells cs (some p)) ∧ H' = H.new X ∧ Fits1 m N B X) ∨ ∃ cs, H' = H.newRow cs ∧ Fits1 m N B (.cells cs (some (H.next, 0)))) := by
    intro s r hm e
    cases r with
    | val u K =>
      cases e
      obtain ⟨v', w', N, B, h1, h2, h3, h4⟩ := hm _ _ rfl
      exact ⟨v', w', N, B, by simp [h1], h2, h3, h4⟩
    | _ => cases e
  cases op' with
  | alloc e => exact fin (r := opA (.alloc e) T ρ H) (fun v H' h => alloc_makes hT h) he
  | box e x => exact fin (r := opA (.box e x) T ρ H) (fun v H' h => box_makes (hσ x) h) he
  | buildSlice t n ps => exact fin (r := opA (.buildSlice t n ps) T ρ H) (fun v H' h => buildSlice_makes hT hσ h) he
  | makeMap t r =>
    cases r with
    | none => exact fin (r := .val (.map H.next) (H.new (.map []))) (fun v H' h => by cases h; exact makeMap_makes t) he
    | some _ => cases he
  | makeSlice t l c => exact fin (r := makeSliceA T t (ev l ρ) (ev c ρ) H) (fun v H' h => makeSlice_makes hT (hσ l) (hσ c) h) he
  | call c =>
    obtain ⟨callee, as, ats⟩ := c
    cases callee with
    | value f => exact (ne1 h rfl).elim
    | invoke _ _ => exact (ne1 h rfl).elim
    | builtin b =>
      have h : BK.casesOn (motive := fun _ => Nat) (bk b) 0 0 2 2 2 2 0 0 2 = 1 := h
      generalize bk b = k at h
      cases k <;> exact (ne1 h rfl).elim
  | _ => exact (ne1 h rfl).elim
end
end Go.Ai
