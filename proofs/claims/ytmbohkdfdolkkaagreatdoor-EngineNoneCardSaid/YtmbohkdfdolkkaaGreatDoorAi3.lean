/- Regions whose order is drawn: one order is run; what else could come out is looked at. -/
import Derived.Test.YtmbohkdfdolkkaaGreatDoorAiE3
namespace Go.Ai
open Go

section eq
noncomputable def AV.tag (v : AV) : Nat := AV.casesOn v 0 (fun _ => 1) (fun _ _ => 2) (fun _ _ => 3) (fun _ => 4) 5 (fun _ _ => 6) 7 (fun _ _ _ _ _ _ => 8) 9 (fun _ => 10) 11 (fun _ _ _ => 12) (fun _ => 13) (fun _ => 14)
noncomputable def AV.onFloat {α : Type} (d : α) (f : FloatKind → Nat → α) (v : AV) : α := AV.casesOn v d (fun _ => d) (fun _ _ => d) f (fun _ => d) d (fun _ _ => d) d (fun _ _ _ _ _ _ => d) d (fun _ => d) d (fun _ _ _ => d) (fun _ => d) (fun _ => d)
noncomputable def AV.onSl {α : Type} (d : α) (f : Nat → Nat → Nat → Nat → Bool → Nat → α) (v : AV) : α := AV.casesOn v d (fun _ => d) (fun _ _ => d) (fun _ _ => d) (fun _ => d) d (fun _ _ => d) d f d (fun _ => d) d (fun _ _ _ => d) (fun _ => d) (fun _ => d)
noncomputable def AV.onMap {α : Type} (d : α) (f : Nat → α) (v : AV) : α := AV.casesOn v d (fun _ => d) (fun _ _ => d) (fun _ _ => d) (fun _ => d) d (fun _ _ => d) d (fun _ _ _ _ _ _ => d) d f d (fun _ _ _ => d) (fun _ => d) (fun _ => d)
noncomputable def beqb (a b : Bool) : Bool := cond a b (not b)
noncomputable def leqA (f : AV → AV → Bool) (l : List AV) : List AV → Bool :=
  List.rec (fun m => List.casesOn m true fun _ _ => false) (fun a _ ih m => List.casesOn m false fun b m => cond (f a b) (ih m) false) l
/-- Are they the same? -/
noncomputable def aveq (n : Nat) : AV → AV → Bool :=
  Nat.rec (fun _ _ => false) (fun _ ih v u => cond (Nat.beq v.tag u.tag)
    (AV.casesOn v true (fun a => u.onBool false fun b => beqb a b) (fun k a => u.onInt false fun j b => cond (keq k j) (ieq a b) false)
      (fun k a => u.onFloat false fun j b => cond (fkeq k j) (Nat.beq a b) false) (fun s => u.onStr false fun t => seq s t) true
      (fun o a => u.onPtr false fun p b => cond (Nat.beq o p) (Nat.beq a b) false) true
      (fun o a l c e s => u.onSl false fun o' a' l' c' e' s' => cond (Nat.beq o o') (cond (Nat.beq a a') (cond (Nat.beq l l') (cond (Nat.beq c c') (cond (beqb e e') (Nat.beq s s') false) false) false) false) false)
      true (fun o => u.onMap false fun p => Nat.beq o p) true
      (fun f a b => onFn false (fun g a' b' => cond (Nat.beq f g) (cond (leqA ih a a') (leqA ih b b') false) false) u)
      (fun l => u.onAgg false fun m => leqA ih l m) (fun l => u.onTup false fun m => leqA ih l m)) false) n

theorem beqb_eq {a b : Bool} (h : beqb a b = true) : a = b := by cases a <;> cases b <;> first | rfl | cases h
theorem leqA_eq {f : AV → AV → Bool} (hf : ∀ a b, f a b = true → a = b) : ∀ {l m : List AV}, leqA f l m = true → l = m
  | [], [], _ => rfl
  | [], _ :: _, h => by cases h
  | _ :: _, [], h => by cases h
  | a :: l, b :: m, h => by
    obtain ⟨h1, h2⟩ := cond_and h
    rw [hf a b h1, leqA_eq hf h2]
theorem aveq_eq : ∀ (n : Nat) (v u : AV), aveq n v u = true → v = u
  | 0, _, _, h => by cases h
  | n + 1, v, u, h => by
    have ih := aveq_eq n
    obtain ⟨h1, h2⟩ := cond_and h
    have h1 := Nat.eq_of_beq_eq_true h1
    have nb := @Nat.eq_of_beq_eq_true
    cases v <;> cases u <;> first
      | rfl
      | (exact absurd h1 (Nat.ne_of_beq_eq_false rfl))
      | (exact congrArg _ (beqb_eq h2))
      | (obtain ⟨g1, g2⟩ := cond_and h2
         rw [keq_eq] at g1
         rw [ieq_eq] at g2
         rw [of_decide_eq_true g1, of_decide_eq_true g2]; done)
      | (obtain ⟨g1, g2⟩ := cond_and h2
         rw [fkeq_eq] at g1
         rw [of_decide_eq_true g1, nb g2]; done)
      | (have g : seq _ _ = true := h2
         rw [seq_eq] at g
         rw [eq_of_beq g]; done)
      | (obtain ⟨g1, g2⟩ := cond_and h2
         rw [nb g1, nb g2]; done)
      | (obtain ⟨g1, g2⟩ := cond_and h2
         obtain ⟨g2, g3⟩ := cond_and g2
         obtain ⟨g3, g4⟩ := cond_and g3
         obtain ⟨g4, g5⟩ := cond_and g4
         obtain ⟨g5, g6⟩ := cond_and g5
         rw [nb g1, nb g2, nb g3, nb g4, beqb_eq g5, nb g6]; done)
      | (exact congrArg _ (nb h2))
      | (obtain ⟨g1, g2⟩ := cond_and h2
         obtain ⟨g2, g3⟩ := cond_and g2
         rw [nb g1, leqA_eq ih g2, leqA_eq ih g3]; done)
      | (exact congrArg _ (leqA_eq ih h2))
end eq

section plan
/-- The operands. -/
noncomputable def opnds (op : Op) : List Operand :=
  Op.casesOn op (fun x => [x]) (fun x => [x]) (fun c a b => [c, a, b]) (fun _ => []) (fun _ v => [v]) (fun _ ps => lmap (fun p => p.2) ps.toList) (fun _ _ ps => lmap (fun p => p.2) ps.toList) (fun _ _ _ _ => []) (fun _ a => [a]) (fun _ a v => [a, v])
    (fun _ => []) (fun _ => []) (fun x => [x]) (fun _ _ x y _ => [x, y]) (fun _ _ x => [x]) (fun _ _ x => [x]) (fun _ _ => []) (fun _ _ => []) (fun _ a b => lapp a.toList b.toList) (fun _ _ => []) (fun _ _ => []) (fun _ l c => [l, c])
    (fun _ x lo hi mx => x :: lapp (Option.casesOn lo [] fun y => [y]) (lapp (Option.casesOn hi [] fun y => [y]) (Option.casesOn mx [] fun y => [y]))) (fun _ x _ => [x]) (fun _ x _ => [x])
    (fun _ x i => [x, i]) (fun _ x i => [x, i]) (fun _ x i _ => [x, i]) (fun _ m k v => [m, k, v]) (fun _ _ _ => []) (fun _ _ _ _ => []) (fun _ _ => []) (fun _ _ => []) (fun _ => []) (fun _ _ _ _ => []) (fun t _ => [t])
    (fun c => Callee.casesOn c.callee (fun f => f :: c.args.toList) (fun _ _ => []) (fun _ => c.args.toList)) (fun _ => []) (fun _ => []) (fun _ => []) (fun _ _ => []) (fun _ _ _ => []) (fun _ _ => [])

/-- 0: what it gives is all that it does; 1: it makes one object; 2: it may do more. -/
noncomputable def opC (op : Op) : Nat :=
  Op.casesOn op (fun _ => 0) (fun _ => 0) (fun _ _ _ => 0) (fun _ => 1) (fun _ _ => 1) (fun _ _ => 0) (fun _ _ _ => 1) (fun _ _ _ _ => 2) (fun _ _ => 0) (fun _ _ _ => 2)
    (fun _ => 2) (fun _ => 2) (fun _ => 0) (fun _ _ _ _ _ => 0) (fun _ _ _ => 0) (fun _ _ _ => 2) (fun _ _ => 2) (fun _ _ => 2) (fun _ _ _ => 0) (fun _ _ => 1) (fun _ _ => 2) (fun _ _ _ => 1)
    (fun _ _ _ _ _ => 0) (fun _ _ _ => 0) (fun _ _ _ => 0) (fun _ _ _ => 0) (fun _ _ _ => 0) (fun _ _ _ _ => 0) (fun _ _ _ _ => 2) (fun _ _ _ => 2) (fun _ _ _ _ => 2) (fun _ _ => 2) (fun _ _ => 2) (fun _ => 2) (fun _ _ _ _ => 2) (fun _ _ => 0)
    (fun c => Callee.casesOn c.callee (fun _ => 2) (fun _ _ => 2) (fun b => BK.casesOn (bk b) 0 0 2 2 2 2 0 0 2)) (fun _ => 2) (fun _ => 2) (fun _ => 2) (fun _ _ => 2) (fun _ _ _ => 2) (fun _ _ => 2)
noncomputable def effA (o : Oper) : Bool := Nat.beq (opC o.op) 2

noncomputable def tb (m i : Nat) : Bool := Nat.beq (Nat.mod (Nat.shiftRight m i) 2) 1
noncomputable def bindsA (e : Edge) : Bool := Ground.casesOn e.ground true true true true (fun _ => false) (fun _ => false)
noncomputable def maskOf (anc : TT Nat) (es : List Edge) : Nat :=
  List.rec 0 (fun e _ ih => cond (bindsA e) (Nat.lor ih (Nat.lor (Nat.shiftLeft 1 e.on) (anc.get 0 e.on))) ih) es
noncomputable def ancAll (l : List Oper) : Nat → TT Nat → TT Nat := List.rec (fun _ t => t) (fun o _ ih i t => ih (Nat.succ i) (TT.put 0 t i (maskOf t o.after.toList))) l
noncomputable def wrAll (l : List Oper) : Nat → TT Nat → TT Nat := List.rec (fun _ t => t) (fun o _ ih i t => ih (Nat.succ i) (Option.casesOn o.dst t fun d => TT.put 0 t d (Nat.succ i))) l
/-- How many operations that may do more come before. -/
noncomputable def depOf (da : TT Nat) (es : List Edge) : Nat :=
  List.rec 0 (fun e _ ih => cond (bindsA e) (da.get 0 e.on |> fun x => cond (Nat.ble ih x) x ih) ih) es

structure Pl where
  i : Nat
  o : Oper
  dep : Nat

noncomputable def plAll (l : List Oper) : Nat → TT Nat → List Pl :=
  List.rec (fun _ _ => []) (fun o _ ih i da => depOf da o.after.toList |> fun d => ⟨i, o, d⟩ :: ih (Nat.succ i) (TT.put 0 da i (cond (effA o) (Nat.succ d) d))) l
noncomputable def lfilter {α : Type} (f : α → Bool) (l : List α) : List α := List.rec [] (fun a _ ih => cond (f a) (a :: ih) ih) l
noncomputable def levels (l : List Pl) (n : Nat) : List Pl :=
  Nat.rec [] (fun k ih => lapp ih (lapp (lfilter (fun p => cond (effA p.o) false (Nat.beq p.dep k)) l) (lfilter (fun p => cond (effA p.o) (Nat.beq p.dep k) false) l))) n
noncomputable def effs (l : List Oper) : Nat := List.rec 0 (fun o _ ih => cond (effA o) (Nat.succ ih) ih) l
noncomputable def orderA (l : List Oper) : List Pl := levels (plAll l 0 .e) (Nat.succ (effs l))

noncomputable def looks (l : List Oper) (o : Oper) : List Nat :=
  List.rec (Option.casesOn o.guard [] fun jw => Option.casesOn (dstOf l jw.1) [] fun d => [d])
    (fun x _ ih => Operand.casesOn x (fun t => t :: ih) (fun _ => ih) (fun _ => ih) (fun _ => ih)) (opnds o.op)

/-- Is the order one that leaves nothing open? -/
noncomputable def chkA (l : List Oper) (anc wr : TT Nat) (ord : List Pl) : Nat → Nat → Bool :=
  List.rec (fun done _ => Nat.beq (Nat.succ done) (Nat.pow 2 (llen l)))
    (fun p _ ih done ef => cond (tb done p.i) false
      (cond (lall (fun e => cond (bindsA e) (tb done e.on) true) p.o.after.toList)
        (cond (Nat.beq (anc.get 0 p.i) (maskOf anc p.o.after.toList))
          (cond (Nat.beq (Nat.land (anc.get 0 p.i) done) (anc.get 0 p.i))
            (cond (Nat.beq (Nat.land ef (anc.get 0 p.i)) ef)
              (cond (lall (fun t => cond (Nat.beq (wr.get 0 t) 0) true (cond (tb (anc.get 0 p.i) (Nat.pred (wr.get 0 t))) true (tb (anc.get 0 (Nat.pred (wr.get 0 t))) p.i))) (looks l p.o))
                (cond (Option.casesOn p.o.dst true fun d => Nat.beq (wr.get 0 d) (Nat.succ p.i))
                  (ih (Nat.lor done (Nat.shiftLeft 1 p.i)) (cond (effA p.o) (Nat.lor ef (Nat.shiftLeft 1 p.i)) ef)) false) false) false) false) false) false)) ord
end plan

/-- What was run: was it wanted; slots and memory before; what it gave. -/
structure Ent where
  i : Nat
  o : Oper
  w : Bool
  ρ : Env
  H : Heap
  v : AV

inductive TrR where
  | fail
  | ok (tr : List Ent) (ρ : Env) (H : Heap)

noncomputable def TrR.cons (e : Ent) (r : TrR) : TrR := TrR.casesOn r .fail fun tr ρ H => .ok (e :: tr) ρ H

noncomputable def runA (T : Tab) (call : Caller) (ops : List Oper) (ord : List Pl) : Env → Heap → TrR :=
  List.rec (fun ρ H => .ok [] ρ H)
    (fun p _ ih ρ H => wantedA .fail
      (OR.casesOn (opB p.o.op T ρ H) .fail (fun v H' => (ih (putA ρ p.o.dst v) H').cons ⟨p.i, p.o, true, ρ, H, v⟩) (fun H' => (ih (putA ρ p.o.dst undefA) H').cons ⟨p.i, p.o, true, ρ, H, undefA⟩)
        (fun f args H1 => KR.casesOn (call f args H1) .fail (fun v H' => (ih (putA ρ p.o.dst v) H').cons ⟨p.i, p.o, true, ρ, H, v⟩)))
      ((ih (putA ρ p.o.dst undefA) H).cons ⟨p.i, p.o, false, ρ, H, undefA⟩) p.o.guard ops ρ) ord

noncomputable def sameA (T : Tab) (ρ : Env) (op : Op) (v : AV) (K : Heap) : Bool := OR.casesOn (opB op T ρ K) false (fun u _ => aveq 8 v u) (fun _ => false) (fun _ _ _ => false)
/-- Does an operation give the same, whenever else it may come? -/
noncomputable def scanA (T : Tab) (anc : TT Nat) (ρ : Env) (HF : Heap) (i : Nat) (op : Op) (v : AV) (tr : List Ent) : Bool :=
  List.rec (sameA T ρ op v HF) (fun e _ ih => cond (effA e.o) (cond (sameA T ρ op v e.H) (cond (tb (anc.get 0 e.i) i) true ih) false) ih) tr
noncomputable def stabA (T : Tab) (anc : TT Nat) (HF : Heap) (tr : List Ent) : Bool :=
  List.rec true (fun e tr ih => cond (cond e.w (cond (Nat.beq (opC e.o.op) 0) (scanA T anc e.ρ HF e.i e.o.op e.v tr) true) true) ih false) tr

noncomputable def drawA (T : Tab) (call : Caller) (ops : List Oper) (ρ : Env) (H : Heap) : ER :=
  (ancAll ops 0 .e) |> fun anc => (orderA ops) |> fun ord =>
    cond (chkA ops anc (wrAll ops 0 .e) ord 0 0)
      (TrR.casesOn (runA T call ops ord ρ H) .fail fun tr ρF HF => cond (stabA T anc HF tr) (.normal ρF HF) .fail) .fail
end Go.Ai
