/- EngineNone: the machine's answer, whatever comes in. -/
import Derived.KernelRfl
import Derived.Test.YtmbohkdfdolkkaaGreatDoorAiSmall
import Derived.Test.YtmbohkdfdolkkaaGreatDoorAiIn
import Derived.Test.YtmbohkdfdolkkaaGreatDoorProg
namespace Go.Ai
open Go Go.Proofs
set_option maxRecDepth 100000
noncomputable def YT : Tab := Tab.of Tryz.prog
noncomputable def YS0 : Sums := addS 268 sumS (addS 249 cloneS (addS 185 (sortedS 263) noS))
noncomputable def YS : Sums := addS 37 (onceS (.bool true)) YS0
/-- A command that came in, its events in memory that is only read. -/
noncomputable def cmdA (kd tm : Int) (s : List UInt8) (ex : Int) (ev : AV) (a b d : Int) : AV := .agg [.int .i64 kd, .int .i64 tm, .str s, .int .i64 ex, ev, .int .i64 a, .int .i64 b, .int .i64 d]
def rops : Code → List Oper | .region _ ops _ => ops.toList | _ => []
noncomputable def lfst (l : List Oper) : Op := List.casesOn l (.move (.tmp 0)) fun o _ => o.op
noncomputable def enB : Code := FI.code (YT.fn 6)
noncomputable def enBr : Code := cR (cL (cR enB))
noncomputable def enRs : List ResultVar := FI.res (YT.fn 6)
noncomputable def enL : List Oper := rops (cL (cL (cR enB)))
theorem t_sum : YT.fn 268 = .some 40 [.tmp 2] (FI.code (YT.fn 268)) := by kernel_rfl
theorem t_sumC : bareC (FI.code (YT.fn 268)) = cSum 61 9 5 327 3 329 := by kernel_rfl
theorem t_small : YT.fn 36 = .some 43 [.tmp 2] (FI.code (YT.fn 36)) := by kernel_rfl
theorem t_smallC : bareC (FI.code (YT.fn 36)) = smAll 36 32 40 9 3 := by kernel_rfl
theorem t_fa2 (o k : Nat) (H : Heap) : fieldAddrA YT 36 (.ptr o k) 2 H = .val (.ptr o (Nat.add k 2)) H := by kernel_rfl
theorem t_fa4 (o k : Nat) (H : Heap) : fieldAddrA YT 36 (.ptr o k) 4 H = .val (.ptr o (Nat.add k 4)) H := by kernel_rfl
theorem t_fe1 (o k : Nat) (H : Heap) : fieldAddrA YT 40 (.ptr o k) 1 H = .val (.ptr o (Nat.add k 1)) H := by kernel_rfl
theorem t_fe2 (o k : Nat) (H : Heap) : fieldAddrA YT 40 (.ptr o k) 2 H = .val (.ptr o (Nat.add k 2)) H := by kernel_rfl
theorem t_s1 : (YT.kind 9).isString = true := by kernel_rfl
theorem t_s2 : (YT.kind 9).known = true := by kernel_rfl
theorem t_s3 : YT.agg 9 = false := by kernel_rfl
theorem t_e1 : (YT.kind 32).known = true := by kernel_rfl
theorem t_e2 : YT.agg 32 = false := by kernel_rfl
theorem t_e3 : (YT.kind 32).isSlice = true := by kernel_rfl
theorem t_e4 : YT.kind 32 = .slice 4 48 [.int .i64 0, .str [], .str [], .float .f64 0] false := by kernel_rfl
theorem t_8 : YT.kind 5 = .int .u8 := by kernel_rfl
theorem t_32 : YT.kind 327 = .int .u32 := by kernel_rfl
theorem t_sl : YT.kind 61 = .slice 1 16 [.str []] false := by kernel_rfl

section
variable (kd tm : Int) (s : List UInt8) (ex : Int) (a b d : Int) (nm : List UInt8) (cs : List AV) 
noncomputable def en1N : ER := (execA YT (callA YT YS 5000 (drawA YT) 39) 5000 (drawA YT (callA YT YS 5000 (drawA YT) 39)) (cL enB) (initA [(cmdA kd tm s ex .sl0 a b d), .str nm] 147) (roHeap cs))
noncomputable def en2N (g : Bool) : ER := opsA YT (callA YT YS 5000 (drawA YT) 39) enL (ldrop 2 enL) (((en1N kd tm s ex a b d nm cs ).env.set 19 (cmdA kd tm s ex .sl0 a b d)).set 20 (.bool g)) ((en1N kd tm s ex a b d nm cs ).heap.new (.cells (cmdA kd tm s ex .sl0 a b d).cells none))
theorem w1N : YS 6 [(cmdA kd tm s ex .sl0 a b d), .str nm] (roHeap cs) = .no := by kernel_rfl
theorem w2N : YT.fn 6 = .some 147 enRs (.seq (cL enB) (.seq (.seq (cL (cL (cR enB))) (.cond (cC enBr) (cT enBr) (cE enBr))) (cR (cR enB)))) := by kernel_rfl
theorem w3N : (execA YT (callA YT YS 5000 (drawA YT) 39) 5000 (drawA YT (callA YT YS 5000 (drawA YT) 39)) (cL enB) (initA [(cmdA kd tm s ex .sl0 a b d), .str nm] 147) (roHeap cs)) = .normal (en1N kd tm s ex a b d nm cs ).env (en1N kd tm s ex a b d nm cs ).heap := by kernel_rfl
theorem w4N (v : AV) : KR.casesOn (motive := fun _ => ER) ((callA YT YS 5000 (drawA YT) 39) 36 [(cmdA kd tm s ex .sl0 a b d)] (en1N kd tm s ex a b d nm cs ).heap) .fail (fun v H => opsA YT (callA YT YS 5000 (drawA YT) 39) enL (ldrop 2 enL) (putA ((en1N kd tm s ex a b d nm cs ).env.set 19 (cmdA kd tm s ex .sl0 a b d)) (some 20) v) H) = (execA YT (callA YT YS 5000 (drawA YT) 39) 5000 (drawA YT (callA YT YS 5000 (drawA YT) 39)) (cL (cL (cR enB))) (en1N kd tm s ex a b d nm cs ).env (en1N kd tm s ex a b d nm cs ).heap) := by kernel_rfl
theorem w5N (g : Bool) : en2N kd tm s ex a b d nm cs  g = .normal (en2N kd tm s ex a b d nm cs  g).env (en2N kd tm s ex a b d nm cs  g).heap := by cases g <;> kernel_rfl
theorem w6N (g : Bool) : ev (cC enBr) (en2N kd tm s ex a b d nm cs  g).env = .bool (cond g (Nat.blt 100 (llen nm)) true) := by cases g <;> kernel_rfl
theorem w7N : (en1N kd tm s ex a b d nm cs ).heap.cells? 0 = .some cs (some (0, 4611686018427387904)) := by kernel_rfl
theorem w8N : (en1N kd tm s ex a b d nm cs ).heap.next = 2 := by kernel_rfl
theorem wcallN (g : Bool) (hg : (callA YT YS 5000 (drawA YT) 39) 36 [(cmdA kd tm s ex .sl0 a b d)] (en1N kd tm s ex a b d nm cs ).heap = .ok (.bool g) ((en1N kd tm s ex a b d nm cs ).heap.new (.cells (cmdA kd tm s ex .sl0 a b d).cells none))) (q : Bool) (hq : cond g (Nat.blt 100 (llen nm)) true = q) :
    callA YT YS 5000 (drawA YT) (39 + 1) 6 [(cmdA kd tm s ex .sl0 a b d), .str nm] (roHeap cs) = endA YT enRs (andThenA YT (callA YT YS 5000 (drawA YT) 39) 5000 (drawA YT (callA YT YS 5000 (drawA YT) 39)) (cR (cR enB)) (cond q (execA YT (callA YT YS 5000 (drawA YT) 39) 5000 (drawA YT (callA YT YS 5000 (drawA YT) 39)) (cT enBr) (en2N kd tm s ex a b d nm cs  g).env (en2N kd tm s ex a b d nm cs  g).heap) (execA YT (callA YT YS 5000 (drawA YT) 39) 5000 (drawA YT (callA YT YS 5000 (drawA YT) 39)) (cE enBr) (en2N kd tm s ex a b d nm cs  g).env (en2N kd tm s ex a b d nm cs  g).heap))) := by
  have h1 : (execA YT (callA YT YS 5000 (drawA YT) 39) 5000 (drawA YT (callA YT YS 5000 (drawA YT) 39)) (cL (cL (cR enB))) (en1N kd tm s ex a b d nm cs ).env (en1N kd tm s ex a b d nm cs ).heap) = .normal (en2N kd tm s ex a b d nm cs  g).env (en2N kd tm s ex a b d nm cs  g).heap := by
    rw [← w4N kd tm s ex a b d nm cs  .bad, hg]; exact w5N kd tm s ex a b d nm cs  g
  exact call_peel (T := YT) (S := YS) (rounds := 5000) (draw := drawA YT) (n := 39) (f := 6) (args := [(cmdA kd tm s ex .sl0 a b d), .str nm]) (H := roHeap cs) (nt := 147) (rs := enRs) (R0 := cL enB) (R1 := cL (cL (cR enB))) (A := cT enBr) (B := cE enBr) (Z := cR (cR enB)) (c := cC enBr)
    (ρ1 := (en1N kd tm s ex a b d nm cs ).env) (H1 := (en1N kd tm s ex a b d nm cs ).heap) (ρ2 := (en2N kd tm s ex a b d nm cs  g).env) (H2 := (en2N kd tm s ex a b d nm cs  g).heap) (b := q) (w1N kd tm s ex a b d nm cs ) (w2N) (w3N kd tm s ex a b d nm cs ) h1 ((w6N kd tm s ex a b d nm cs  g).trans (congrArg AV.bool hq))
theorem wbigN (g : Bool) : (endA YT enRs (andThenA YT (callA YT YS 5000 (drawA YT) 39) 5000 (drawA YT (callA YT YS 5000 (drawA YT) 39)) (cR (cR enB)) (execA YT (callA YT YS 5000 (drawA YT) 39) 5000 (drawA YT (callA YT YS 5000 (drawA YT) 39)) (cT enBr) (en2N kd tm s ex a b d nm cs  g).env (en2N kd tm s ex a b d nm cs  g).heap))).isTrue = true := by cases g <;> kernel_rfl
theorem wsmallN (g : Bool) (hg : g = true) : (endA YT enRs (andThenA YT (callA YT YS 5000 (drawA YT) 39) 5000 (drawA YT (callA YT YS 5000 (drawA YT) 39)) (cR (cR enB)) (execA YT (callA YT YS 5000 (drawA YT) 39) 5000 (drawA YT (callA YT YS 5000 (drawA YT) 39)) (cE enBr) (en2N kd tm s ex a b d nm cs  g).env (en2N kd tm s ex a b d nm cs  g).heap))).isTrue = true := by subst hg; kernel_rfl
theorem wtrueN (hg : ∃ g, (callA YT YS 5000 (drawA YT) 39) 36 [(cmdA kd tm s ex .sl0 a b d)] (en1N kd tm s ex a b d nm cs ).heap = .ok (.bool g) ((en1N kd tm s ex a b d nm cs ).heap.new (.cells (cmdA kd tm s ex .sl0 a b d).cells none))) : (callA YT YS 5000 (drawA YT) 40 6 [(cmdA kd tm s ex .sl0 a b d), .str nm] (roHeap cs)).isTrue = true := by
  obtain ⟨g, hg⟩ := hg
  cases hq : cond g (Nat.blt 100 (llen nm)) true with
  | true =>
    have he : callA YT YS 5000 (drawA YT) 40 6 [(cmdA kd tm s ex .sl0 a b d), .str nm] (roHeap cs) = endA YT enRs (andThenA YT (callA YT YS 5000 (drawA YT) 39) 5000 (drawA YT (callA YT YS 5000 (drawA YT) 39)) (cR (cR enB)) (execA YT (callA YT YS 5000 (drawA YT) 39) 5000 (drawA YT (callA YT YS 5000 (drawA YT) 39)) (cT enBr) (en2N kd tm s ex a b d nm cs  g).env (en2N kd tm s ex a b d nm cs  g).heap)) := wcallN kd tm s ex a b d nm cs  g hg true hq
    rw [he]; exact wbigN kd tm s ex a b d nm cs  g
  | false =>
    have he : callA YT YS 5000 (drawA YT) 40 6 [(cmdA kd tm s ex .sl0 a b d), .str nm] (roHeap cs) = endA YT enRs (andThenA YT (callA YT YS 5000 (drawA YT) 39) 5000 (drawA YT (callA YT YS 5000 (drawA YT) 39)) (cR (cR enB)) (execA YT (callA YT YS 5000 (drawA YT) 39) 5000 (drawA YT (callA YT YS 5000 (drawA YT) 39)) (cE enBr) (en2N kd tm s ex a b d nm cs  g).env (en2N kd tm s ex a b d nm cs  g).heap)) := wcallN kd tm s ex a b d nm cs  g hg false hq
    have hgt : g = true := by cases g with | true => rfl | false => cases hq
    rw [he]; exact wsmallN kd tm s ex a b d nm cs  g hgt
end

section
variable (kd tm : Int) (s : List UInt8) (ex : Int) (a b d : Int) (nm : List UInt8) (cs : List AV) (off n cap : Nat) (e : Bool)
noncomputable def en1L : ER := (execA YT (callA YT YS 5000 (drawA YT) 39) 5000 (drawA YT (callA YT YS 5000 (drawA YT) 39)) (cL enB) (initA [(cmdA kd tm s ex (.sl 0 off n cap e 4) a b d), .str nm] 147) (roHeap cs))
noncomputable def en2L (g : Bool) : ER := opsA YT (callA YT YS 5000 (drawA YT) 39) enL (ldrop 2 enL) (((en1L kd tm s ex a b d nm cs off n cap e).env.set 19 (cmdA kd tm s ex (.sl 0 off n cap e 4) a b d)).set 20 (.bool g)) ((en1L kd tm s ex a b d nm cs off n cap e).heap.new (.cells (cmdA kd tm s ex (.sl 0 off n cap e 4) a b d).cells none))
theorem w1L : YS 6 [(cmdA kd tm s ex (.sl 0 off n cap e 4) a b d), .str nm] (roHeap cs) = .no := by kernel_rfl
theorem w2L : YT.fn 6 = .some 147 enRs (.seq (cL enB) (.seq (.seq (cL (cL (cR enB))) (.cond (cC enBr) (cT enBr) (cE enBr))) (cR (cR enB)))) := by kernel_rfl
theorem w3L : (execA YT (callA YT YS 5000 (drawA YT) 39) 5000 (drawA YT (callA YT YS 5000 (drawA YT) 39)) (cL enB) (initA [(cmdA kd tm s ex (.sl 0 off n cap e 4) a b d), .str nm] 147) (roHeap cs)) = .normal (en1L kd tm s ex a b d nm cs off n cap e).env (en1L kd tm s ex a b d nm cs off n cap e).heap := by kernel_rfl
theorem w4L (v : AV) : KR.casesOn (motive := fun _ => ER) ((callA YT YS 5000 (drawA YT) 39) 36 [(cmdA kd tm s ex (.sl 0 off n cap e 4) a b d)] (en1L kd tm s ex a b d nm cs off n cap e).heap) .fail (fun v H => opsA YT (callA YT YS 5000 (drawA YT) 39) enL (ldrop 2 enL) (putA ((en1L kd tm s ex a b d nm cs off n cap e).env.set 19 (cmdA kd tm s ex (.sl 0 off n cap e 4) a b d)) (some 20) v) H) = (execA YT (callA YT YS 5000 (drawA YT) 39) 5000 (drawA YT (callA YT YS 5000 (drawA YT) 39)) (cL (cL (cR enB))) (en1L kd tm s ex a b d nm cs off n cap e).env (en1L kd tm s ex a b d nm cs off n cap e).heap) := by kernel_rfl
theorem w5L (g : Bool) : en2L kd tm s ex a b d nm cs off n cap e g = .normal (en2L kd tm s ex a b d nm cs off n cap e g).env (en2L kd tm s ex a b d nm cs off n cap e g).heap := by cases g <;> kernel_rfl
theorem w6L (g : Bool) : ev (cC enBr) (en2L kd tm s ex a b d nm cs off n cap e g).env = .bool (cond g (Nat.blt 100 (llen nm)) true) := by cases g <;> kernel_rfl
theorem w7L : (en1L kd tm s ex a b d nm cs off n cap e).heap.cells? 0 = .some cs (some (0, 4611686018427387904)) := by kernel_rfl
theorem w8L : (en1L kd tm s ex a b d nm cs off n cap e).heap.next = 2 := by kernel_rfl
theorem wcallL (g : Bool) (hg : (callA YT YS 5000 (drawA YT) 39) 36 [(cmdA kd tm s ex (.sl 0 off n cap e 4) a b d)] (en1L kd tm s ex a b d nm cs off n cap e).heap = .ok (.bool g) ((en1L kd tm s ex a b d nm cs off n cap e).heap.new (.cells (cmdA kd tm s ex (.sl 0 off n cap e 4) a b d).cells none))) (q : Bool) (hq : cond g (Nat.blt 100 (llen nm)) true = q) :
    callA YT YS 5000 (drawA YT) (39 + 1) 6 [(cmdA kd tm s ex (.sl 0 off n cap e 4) a b d), .str nm] (roHeap cs) = endA YT enRs (andThenA YT (callA YT YS 5000 (drawA YT) 39) 5000 (drawA YT (callA YT YS 5000 (drawA YT) 39)) (cR (cR enB)) (cond q (execA YT (callA YT YS 5000 (drawA YT) 39) 5000 (drawA YT (callA YT YS 5000 (drawA YT) 39)) (cT enBr) (en2L kd tm s ex a b d nm cs off n cap e g).env (en2L kd tm s ex a b d nm cs off n cap e g).heap) (execA YT (callA YT YS 5000 (drawA YT) 39) 5000 (drawA YT (callA YT YS 5000 (drawA YT) 39)) (cE enBr) (en2L kd tm s ex a b d nm cs off n cap e g).env (en2L kd tm s ex a b d nm cs off n cap e g).heap))) := by
  have h1 : (execA YT (callA YT YS 5000 (drawA YT) 39) 5000 (drawA YT (callA YT YS 5000 (drawA YT) 39)) (cL (cL (cR enB))) (en1L kd tm s ex a b d nm cs off n cap e).env (en1L kd tm s ex a b d nm cs off n cap e).heap) = .normal (en2L kd tm s ex a b d nm cs off n cap e g).env (en2L kd tm s ex a b d nm cs off n cap e g).heap := by
    rw [← w4L kd tm s ex a b d nm cs off n cap e .bad, hg]; exact w5L kd tm s ex a b d nm cs off n cap e g
  exact call_peel (T := YT) (S := YS) (rounds := 5000) (draw := drawA YT) (n := 39) (f := 6) (args := [(cmdA kd tm s ex (.sl 0 off n cap e 4) a b d), .str nm]) (H := roHeap cs) (nt := 147) (rs := enRs) (R0 := cL enB) (R1 := cL (cL (cR enB))) (A := cT enBr) (B := cE enBr) (Z := cR (cR enB)) (c := cC enBr)
    (ρ1 := (en1L kd tm s ex a b d nm cs off n cap e).env) (H1 := (en1L kd tm s ex a b d nm cs off n cap e).heap) (ρ2 := (en2L kd tm s ex a b d nm cs off n cap e g).env) (H2 := (en2L kd tm s ex a b d nm cs off n cap e g).heap) (b := q) (w1L kd tm s ex a b d nm cs off n cap e) (w2L) (w3L kd tm s ex a b d nm cs off n cap e) h1 ((w6L kd tm s ex a b d nm cs off n cap e g).trans (congrArg AV.bool hq))
theorem wbigL (g : Bool) : (endA YT enRs (andThenA YT (callA YT YS 5000 (drawA YT) 39) 5000 (drawA YT (callA YT YS 5000 (drawA YT) 39)) (cR (cR enB)) (execA YT (callA YT YS 5000 (drawA YT) 39) 5000 (drawA YT (callA YT YS 5000 (drawA YT) 39)) (cT enBr) (en2L kd tm s ex a b d nm cs off n cap e g).env (en2L kd tm s ex a b d nm cs off n cap e g).heap))).isTrue = true := by cases g <;> kernel_rfl
theorem wsmallL (g : Bool) (hg : g = true) : (endA YT enRs (andThenA YT (callA YT YS 5000 (drawA YT) 39) 5000 (drawA YT (callA YT YS 5000 (drawA YT) 39)) (cR (cR enB)) (execA YT (callA YT YS 5000 (drawA YT) 39) 5000 (drawA YT (callA YT YS 5000 (drawA YT) 39)) (cE enBr) (en2L kd tm s ex a b d nm cs off n cap e g).env (en2L kd tm s ex a b d nm cs off n cap e g).heap))).isTrue = true := by subst hg; kernel_rfl
theorem wtrueL (hg : ∃ g, (callA YT YS 5000 (drawA YT) 39) 36 [(cmdA kd tm s ex (.sl 0 off n cap e 4) a b d)] (en1L kd tm s ex a b d nm cs off n cap e).heap = .ok (.bool g) ((en1L kd tm s ex a b d nm cs off n cap e).heap.new (.cells (cmdA kd tm s ex (.sl 0 off n cap e 4) a b d).cells none))) : (callA YT YS 5000 (drawA YT) 40 6 [(cmdA kd tm s ex (.sl 0 off n cap e 4) a b d), .str nm] (roHeap cs)).isTrue = true := by
  obtain ⟨g, hg⟩ := hg
  cases hq : cond g (Nat.blt 100 (llen nm)) true with
  | true =>
    have he : callA YT YS 5000 (drawA YT) 40 6 [(cmdA kd tm s ex (.sl 0 off n cap e 4) a b d), .str nm] (roHeap cs) = endA YT enRs (andThenA YT (callA YT YS 5000 (drawA YT) 39) 5000 (drawA YT (callA YT YS 5000 (drawA YT) 39)) (cR (cR enB)) (execA YT (callA YT YS 5000 (drawA YT) 39) 5000 (drawA YT (callA YT YS 5000 (drawA YT) 39)) (cT enBr) (en2L kd tm s ex a b d nm cs off n cap e g).env (en2L kd tm s ex a b d nm cs off n cap e g).heap)) := wcallL kd tm s ex a b d nm cs off n cap e g hg true hq
    rw [he]; exact wbigL kd tm s ex a b d nm cs off n cap e g
  | false =>
    have he : callA YT YS 5000 (drawA YT) 40 6 [(cmdA kd tm s ex (.sl 0 off n cap e 4) a b d), .str nm] (roHeap cs) = endA YT enRs (andThenA YT (callA YT YS 5000 (drawA YT) 39) 5000 (drawA YT (callA YT YS 5000 (drawA YT) 39)) (cR (cR enB)) (execA YT (callA YT YS 5000 (drawA YT) 39) 5000 (drawA YT (callA YT YS 5000 (drawA YT) 39)) (cE enBr) (en2L kd tm s ex a b d nm cs off n cap e g).env (en2L kd tm s ex a b d nm cs off n cap e g).heap)) := wcallL kd tm s ex a b d nm cs off n cap e g hg false hq
    have hgt : g = true := by cases g with | true => rfl | false => cases hq
    rw [he]; exact wsmallL kd tm s ex a b d nm cs off n cap e g hgt
end

theorem en_nil (kd tm : Int) (s : List UInt8) (ex : Int) (a b d : Int) (nm : List UInt8) : (callA YT YS 5000 (drawA YT) 40 6 [cmdA kd tm s ex .sl0 a b d, .str nm] (roHeap [])).isTrue = true :=
  wtrueN kd tm s ex a b d nm [] (small_call (S := YS) (n0 := 38) (n := 0) (fun _ _ => rfl) t_small t_smallC (fun o i k H h => by rcases h with rfl | rfl; exact t_fa2 o k H; exact t_fa4 o k H) (fun o i k H h => by rcases h with rfl | rfl; exact t_fe1 o k H; exact t_fe2 o k H) ⟨t_s1, t_s2, t_s3⟩ ⟨t_e1, t_e2⟩ (by decide) (.inl ⟨rfl, rfl, t_e3⟩))
theorem en_list (kd tm : Int) (s : List UInt8) (ex : Int) (a b d : Int) (nm : List UInt8) (cs : List AV) (off n cap : Nat) (e : Bool) (hel : ∀ k, k < n → ∃ s1 s2, lnth .bad cs (off + 4 * k + 1) = .str s1 ∧ lnth .bad cs (off + 4 * k + 2) = .str s2) :
    (callA YT YS 5000 (drawA YT) 40 6 [cmdA kd tm s ex (.sl 0 off n cap e 4) a b d, .str nm] (roHeap cs)).isTrue = true :=
  wtrueL kd tm s ex a b d nm cs off n cap e (small_call (S := YS) (n0 := 38) (n := n) (fun _ _ => rfl) t_small t_smallC (fun o i k H h => by rcases h with rfl | rfl; exact t_fa2 o k H; exact t_fa4 o k H) (fun o i k H h => by rcases h with rfl | rfl; exact t_fe1 o k H; exact t_fe2 o k H) ⟨t_s1, t_s2, t_s3⟩ ⟨t_e1, t_e2⟩ (by decide)
    (.inr ⟨0, off, cap, e, 48, _, cs, _, rfl, t_e4, by rw [w8L]; decide, w7L kd tm s ex a b d nm cs off n cap e, hel⟩))
theorem alive18_true : (callA YT YS0 5000 (drawA YT) 40 37 [] Hn).isTrue = true := by kernel_rfl
end Go.Ai
