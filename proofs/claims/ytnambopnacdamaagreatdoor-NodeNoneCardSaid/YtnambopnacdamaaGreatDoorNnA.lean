/- NodeNone: the machine's answer, whatever comes in. -/
import Derived.KernelRfl
import Derived.Test.YtnambopnacdamaaGreatDoorAiPeel
import Derived.Test.YtnambopnacdamaaGreatDoorProg
namespace Go.Ai
open Go Go.Proofs
set_option maxRecDepth 100000
noncomputable def YT : Tab := Tab.of Tryz.prog
noncomputable def YS0 : Sums := addS 98 cloneS (addS 182 (sortedS 224) noS)
noncomputable def YS : Sums := addS 4 (onceS (.bool true)) YS0
noncomputable def nnArgs (id nodes a b : Int) (s : List UInt8) : List AV := [.int .i64 id, .int .i64 nodes, .agg [.int .i64 a, .int .i64 b, .str s]]
noncomputable def nnB : Code := FI.code (YT.fn 3)
noncomputable def nnE (c : Code) (ρ : Env) (H : Heap) : ER := execA YT (callA YT YS 5000 (drawA YT) 39) 5000 (drawA YT (callA YT YS 5000 (drawA YT) 39)) c ρ H
noncomputable def nn1 (id nodes a b : Int) (s : List UInt8) : ER := nnE (cL nnB) (initA (nnArgs id nodes a b s) 120) Hn
noncomputable def nn2 (id nodes a b : Int) (s : List UInt8) : ER := nnE (cL (cL (cR nnB))) (nn1 id nodes a b s).env (nn1 id nodes a b s).heap
noncomputable def nnBr : Code := cR (cL (cR nnB))
noncomputable def nnRs : List ResultVar := FI.res (YT.fn 3)
theorem q1 (id nodes a b : Int) (s : List UInt8) : YS 3 (nnArgs id nodes a b s) Hn = .no := by kernel_rfl
theorem q2 : YT.fn 3 = .some 120 nnRs (.seq (cL nnB) (.seq (.seq (cL (cL (cR nnB))) (.cond (cC nnBr) (cT nnBr) (cE nnBr))) (cR (cR nnB)))) := by kernel_rfl
theorem q3 (id nodes a b : Int) (s : List UInt8) : nnE (cL nnB) (initA (nnArgs id nodes a b s) 120) Hn = .normal (nn1 id nodes a b s).env (nn1 id nodes a b s).heap := by kernel_rfl
theorem q4 (id nodes a b : Int) (s : List UInt8) : nnE (cL (cL (cR nnB))) (nn1 id nodes a b s).env (nn1 id nodes a b s).heap = .normal (nn2 id nodes a b s).env (nn2 id nodes a b s).heap := by kernel_rfl
theorem q5 (id nodes a b : Int) (s : List UInt8) : ev (cC nnBr) (nn2 id nodes a b s).env = .bool (Nat.blt 300 (llen s)) := by kernel_rfl

theorem nn_call (id nodes a b : Int) (s : List UInt8) (g : Bool) (hg : Nat.blt 300 (llen s) = g) :
    callA YT YS 5000 (drawA YT) (39 + 1) 3 (nnArgs id nodes a b s) Hn = endA YT nnRs (andThenA YT (callA YT YS 5000 (drawA YT) 39) 5000 (drawA YT (callA YT YS 5000 (drawA YT) 39)) (cR (cR nnB)) (cond g (execA YT (callA YT YS 5000 (drawA YT) 39) 5000 (drawA YT (callA YT YS 5000 (drawA YT) 39)) (cT nnBr) (nn2 id nodes a b s).env (nn2 id nodes a b s).heap) (execA YT (callA YT YS 5000 (drawA YT) 39) 5000 (drawA YT (callA YT YS 5000 (drawA YT) 39)) (cE nnBr) (nn2 id nodes a b s).env (nn2 id nodes a b s).heap))) :=
  call_peel (T := YT) (S := YS) (rounds := 5000) (draw := drawA YT) (n := 39) (f := 3) (args := nnArgs id nodes a b s) (H := Hn) (nt := 120) (rs := nnRs) (R0 := cL nnB) (R1 := cL (cL (cR nnB))) (A := cT nnBr) (B := cE nnBr) (Z := cR (cR nnB)) (c := cC nnBr)
    (ρ1 := (nn1 id nodes a b s).env) (H1 := (nn1 id nodes a b s).heap) (ρ2 := (nn2 id nodes a b s).env) (H2 := (nn2 id nodes a b s).heap) (b := g) (q1 id nodes a b s) q2 (q3 id nodes a b s) (q4 id nodes a b s) ((q5 id nodes a b s).trans (congrArg AV.bool hg))


noncomputable def nnBig (id nodes a b : Int) (s : List UInt8) : KR := endA YT nnRs (andThenA YT (callA YT YS 5000 (drawA YT) 39) 5000 (drawA YT (callA YT YS 5000 (drawA YT) 39)) (cR (cR nnB)) (execA YT (callA YT YS 5000 (drawA YT) 39) 5000 (drawA YT (callA YT YS 5000 (drawA YT) 39)) (cT nnBr) (nn2 id nodes a b s).env (nn2 id nodes a b s).heap))
noncomputable def nnR (id nodes a b : Int) (s : List UInt8) : KR := endA YT nnRs (andThenA YT (callA YT YS 5000 (drawA YT) 39) 5000 (drawA YT (callA YT YS 5000 (drawA YT) 39)) (cR (cR nnB)) (execA YT (callA YT YS 5000 (drawA YT) 39) 5000 (drawA YT (callA YT YS 5000 (drawA YT) 39)) (cE nnBr) (nn2 id nodes a b s).env (nn2 id nodes a b s).heap))
theorem nn_is_big (id nodes a b : Int) (s : List UInt8) (h : Nat.blt 300 (llen s) = true) : callA YT YS 5000 (drawA YT) 40 3 (nnArgs id nodes a b s) Hn = nnBig id nodes a b s := nn_call id nodes a b s true h
theorem nn_is (id nodes a b : Int) (s : List UInt8) (h : Nat.blt 300 (llen s) = false) : callA YT YS 5000 (drawA YT) 40 3 (nnArgs id nodes a b s) Hn = nnR id nodes a b s := nn_call id nodes a b s false h
theorem nn_big (id nodes a b : Int) (s : List UInt8) : (nnBig id nodes a b s).isTrue = true := by kernel_rfl
section
variable (a b : Int) (s : List UInt8)
theorem nn_neg (id : Int) (k : Nat) : (nnR id (.negSucc k) a b s).isTrue = true := by kernel_rfl
theorem nn_zero (id : Int) : (nnR id (.ofNat 0) a b s).isTrue = true := by kernel_rfl
theorem nn_more (id : Int) (k : Nat) : (nnR id (.ofNat (k + 8)) a b s).isTrue = true := by kernel_rfl
theorem nn_low1 (k : Nat) : (nnR (.negSucc k) (.ofNat 1) a b s).isTrue = true := by kernel_rfl
theorem nn_high1 (k : Nat) : (nnR (.ofNat (k + 1)) (.ofNat 1) a b s).isTrue = true := by kernel_rfl
theorem nn_good1_0 : (nnR (.ofNat 0) (.ofNat 1) a b s).isTrue = true := by kernel_rfl
theorem nn_low2 (k : Nat) : (nnR (.negSucc k) (.ofNat 2) a b s).isTrue = true := by kernel_rfl
theorem nn_high2 (k : Nat) : (nnR (.ofNat (k + 2)) (.ofNat 2) a b s).isTrue = true := by kernel_rfl
theorem nn_good2_0 : (nnR (.ofNat 0) (.ofNat 2) a b s).isTrue = true := by kernel_rfl
theorem nn_good2_1 : (nnR (.ofNat 1) (.ofNat 2) a b s).isTrue = true := by kernel_rfl
theorem nn_low3 (k : Nat) : (nnR (.negSucc k) (.ofNat 3) a b s).isTrue = true := by kernel_rfl
theorem nn_high3 (k : Nat) : (nnR (.ofNat (k + 3)) (.ofNat 3) a b s).isTrue = true := by kernel_rfl
theorem nn_good3_0 : (nnR (.ofNat 0) (.ofNat 3) a b s).isTrue = true := by kernel_rfl
theorem nn_good3_1 : (nnR (.ofNat 1) (.ofNat 3) a b s).isTrue = true := by kernel_rfl
theorem nn_good3_2 : (nnR (.ofNat 2) (.ofNat 3) a b s).isTrue = true := by kernel_rfl
theorem nn_low4 (k : Nat) : (nnR (.negSucc k) (.ofNat 4) a b s).isTrue = true := by kernel_rfl
theorem nn_high4 (k : Nat) : (nnR (.ofNat (k + 4)) (.ofNat 4) a b s).isTrue = true := by kernel_rfl
theorem nn_good4_0 : (nnR (.ofNat 0) (.ofNat 4) a b s).isTrue = true := by kernel_rfl
theorem nn_good4_1 : (nnR (.ofNat 1) (.ofNat 4) a b s).isTrue = true := by kernel_rfl
theorem nn_good4_2 : (nnR (.ofNat 2) (.ofNat 4) a b s).isTrue = true := by kernel_rfl
theorem nn_good4_3 : (nnR (.ofNat 3) (.ofNat 4) a b s).isTrue = true := by kernel_rfl
theorem nn_low5 (k : Nat) : (nnR (.negSucc k) (.ofNat 5) a b s).isTrue = true := by kernel_rfl
theorem nn_high5 (k : Nat) : (nnR (.ofNat (k + 5)) (.ofNat 5) a b s).isTrue = true := by kernel_rfl
theorem nn_good5_0 : (nnR (.ofNat 0) (.ofNat 5) a b s).isTrue = true := by kernel_rfl
theorem nn_good5_1 : (nnR (.ofNat 1) (.ofNat 5) a b s).isTrue = true := by kernel_rfl
theorem nn_good5_2 : (nnR (.ofNat 2) (.ofNat 5) a b s).isTrue = true := by kernel_rfl
theorem nn_good5_3 : (nnR (.ofNat 3) (.ofNat 5) a b s).isTrue = true := by kernel_rfl
theorem nn_good5_4 : (nnR (.ofNat 4) (.ofNat 5) a b s).isTrue = true := by kernel_rfl
theorem nn_low6 (k : Nat) : (nnR (.negSucc k) (.ofNat 6) a b s).isTrue = true := by kernel_rfl
theorem nn_high6 (k : Nat) : (nnR (.ofNat (k + 6)) (.ofNat 6) a b s).isTrue = true := by kernel_rfl
theorem nn_good6_0 : (nnR (.ofNat 0) (.ofNat 6) a b s).isTrue = true := by kernel_rfl
theorem nn_good6_1 : (nnR (.ofNat 1) (.ofNat 6) a b s).isTrue = true := by kernel_rfl
theorem nn_good6_2 : (nnR (.ofNat 2) (.ofNat 6) a b s).isTrue = true := by kernel_rfl
theorem nn_good6_3 : (nnR (.ofNat 3) (.ofNat 6) a b s).isTrue = true := by kernel_rfl
theorem nn_good6_4 : (nnR (.ofNat 4) (.ofNat 6) a b s).isTrue = true := by kernel_rfl
theorem nn_good6_5 : (nnR (.ofNat 5) (.ofNat 6) a b s).isTrue = true := by kernel_rfl
theorem nn_low7 (k : Nat) : (nnR (.negSucc k) (.ofNat 7) a b s).isTrue = true := by kernel_rfl
theorem nn_high7 (k : Nat) : (nnR (.ofNat (k + 7)) (.ofNat 7) a b s).isTrue = true := by kernel_rfl
theorem nn_good7_0 : (nnR (.ofNat 0) (.ofNat 7) a b s).isTrue = true := by kernel_rfl
theorem nn_good7_1 : (nnR (.ofNat 1) (.ofNat 7) a b s).isTrue = true := by kernel_rfl
theorem nn_good7_2 : (nnR (.ofNat 2) (.ofNat 7) a b s).isTrue = true := by kernel_rfl
theorem nn_good7_3 : (nnR (.ofNat 3) (.ofNat 7) a b s).isTrue = true := by kernel_rfl
theorem nn_good7_4 : (nnR (.ofNat 4) (.ofNat 7) a b s).isTrue = true := by kernel_rfl
theorem nn_good7_5 : (nnR (.ofNat 5) (.ofNat 7) a b s).isTrue = true := by kernel_rfl
theorem nn_good7_6 : (nnR (.ofNat 6) (.ofNat 7) a b s).isTrue = true := by kernel_rfl
theorem nn_all1 (id : Int) : (nnR id (.ofNat 1) a b s).isTrue = true := by
  cases id with
  | negSucc k => exact nn_low1 a b s k
  | ofNat i =>
    match Nat.lt_or_ge i 1 with
    | .inr h => obtain ⟨k, rfl⟩ : ∃ k, i = k + 1 := ⟨i - 1, by omega⟩; exact nn_high1 a b s k
    | .inl h =>
      match i, h with
      | 0, _ => exact nn_good1_0 a b s
theorem nn_all2 (id : Int) : (nnR id (.ofNat 2) a b s).isTrue = true := by
  cases id with
  | negSucc k => exact nn_low2 a b s k
  | ofNat i =>
    match Nat.lt_or_ge i 2 with
    | .inr h => obtain ⟨k, rfl⟩ : ∃ k, i = k + 2 := ⟨i - 2, by omega⟩; exact nn_high2 a b s k
    | .inl h =>
      match i, h with
      | 0, _ => exact nn_good2_0 a b s
      | 1, _ => exact nn_good2_1 a b s
theorem nn_all3 (id : Int) : (nnR id (.ofNat 3) a b s).isTrue = true := by
  cases id with
  | negSucc k => exact nn_low3 a b s k
  | ofNat i =>
    match Nat.lt_or_ge i 3 with
    | .inr h => obtain ⟨k, rfl⟩ : ∃ k, i = k + 3 := ⟨i - 3, by omega⟩; exact nn_high3 a b s k
    | .inl h =>
      match i, h with
      | 0, _ => exact nn_good3_0 a b s
      | 1, _ => exact nn_good3_1 a b s
      | 2, _ => exact nn_good3_2 a b s
theorem nn_all4 (id : Int) : (nnR id (.ofNat 4) a b s).isTrue = true := by
  cases id with
  | negSucc k => exact nn_low4 a b s k
  | ofNat i =>
    match Nat.lt_or_ge i 4 with
    | .inr h => obtain ⟨k, rfl⟩ : ∃ k, i = k + 4 := ⟨i - 4, by omega⟩; exact nn_high4 a b s k
    | .inl h =>
      match i, h with
      | 0, _ => exact nn_good4_0 a b s
      | 1, _ => exact nn_good4_1 a b s
      | 2, _ => exact nn_good4_2 a b s
      | 3, _ => exact nn_good4_3 a b s
theorem nn_all5 (id : Int) : (nnR id (.ofNat 5) a b s).isTrue = true := by
  cases id with
  | negSucc k => exact nn_low5 a b s k
  | ofNat i =>
    match Nat.lt_or_ge i 5 with
    | .inr h => obtain ⟨k, rfl⟩ : ∃ k, i = k + 5 := ⟨i - 5, by omega⟩; exact nn_high5 a b s k
    | .inl h =>
      match i, h with
      | 0, _ => exact nn_good5_0 a b s
      | 1, _ => exact nn_good5_1 a b s
      | 2, _ => exact nn_good5_2 a b s
      | 3, _ => exact nn_good5_3 a b s
      | 4, _ => exact nn_good5_4 a b s
theorem nn_all6 (id : Int) : (nnR id (.ofNat 6) a b s).isTrue = true := by
  cases id with
  | negSucc k => exact nn_low6 a b s k
  | ofNat i =>
    match Nat.lt_or_ge i 6 with
    | .inr h => obtain ⟨k, rfl⟩ : ∃ k, i = k + 6 := ⟨i - 6, by omega⟩; exact nn_high6 a b s k
    | .inl h =>
      match i, h with
      | 0, _ => exact nn_good6_0 a b s
      | 1, _ => exact nn_good6_1 a b s
      | 2, _ => exact nn_good6_2 a b s
      | 3, _ => exact nn_good6_3 a b s
      | 4, _ => exact nn_good6_4 a b s
      | 5, _ => exact nn_good6_5 a b s
theorem nn_all7 (id : Int) : (nnR id (.ofNat 7) a b s).isTrue = true := by
  cases id with
  | negSucc k => exact nn_low7 a b s k
  | ofNat i =>
    match Nat.lt_or_ge i 7 with
    | .inr h => obtain ⟨k, rfl⟩ : ∃ k, i = k + 7 := ⟨i - 7, by omega⟩; exact nn_high7 a b s k
    | .inl h =>
      match i, h with
      | 0, _ => exact nn_good7_0 a b s
      | 1, _ => exact nn_good7_1 a b s
      | 2, _ => exact nn_good7_2 a b s
      | 3, _ => exact nn_good7_3 a b s
      | 4, _ => exact nn_good7_4 a b s
      | 5, _ => exact nn_good7_5 a b s
      | 6, _ => exact nn_good7_6 a b s
theorem nn_all (id nodes : Int) : (nnR id nodes a b s).isTrue = true := by
  cases nodes with
  | negSucc k => exact nn_neg a b s id k
  | ofNat n =>
    match n with
    | 0 => exact nn_zero a b s id
    | 1 => exact nn_all1 a b s id
    | 2 => exact nn_all2 a b s id
    | 3 => exact nn_all3 a b s id
    | 4 => exact nn_all4 a b s id
    | 5 => exact nn_all5 a b s id
    | 6 => exact nn_all6 a b s id
    | 7 => exact nn_all7 a b s id
    | k + 8 => exact nn_more a b s id k
end
theorem nn_true (id nodes a b : Int) (s : List UInt8) : (callA YT YS 5000 (drawA YT) 40 3 (nnArgs id nodes a b s) Hn).isTrue = true := by
  cases h : Nat.blt 300 (llen s) with
  | true => rw [nn_is_big id nodes a b s h]; exact nn_big id nodes a b s
  | false => rw [nn_is id nodes a b s h]; exact nn_all a b s id nodes
theorem alive_true : (callA YT YS0 5000 (drawA YT) 40 4 [] Hn).isTrue = true := by kernel_rfl
end Go.Ai
