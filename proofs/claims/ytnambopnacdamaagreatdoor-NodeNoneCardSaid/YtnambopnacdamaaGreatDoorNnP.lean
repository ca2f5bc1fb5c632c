/- Proved: for every id, every number of nodes and every packet the law NodeNone of chapter 23 returns true and leaves its arguments as they were. Conditions: those of the given card alone (the listed package variables start as the program's text lays them). -/
import Derived.Test.YtnambopnacdamaaGreatDoorNnA
import Derived.Test.YtnambopnacdamaaGreatDoorAiZ
import Derived.Test.YtnambopnacdamaaGreatDoorNnS
import Derived.Test.YtnambopnacdamaaGreatDoorRows
import Derived.Test.YtnambopnacdamaaGreatDoorTie
import Derived.Test.YtnambopnacdamaaGreatDoorCards
import Derived.ProofKit
import Derived.LaidMore
import Derived.OpenShut
import Derived.Stop.Joined
import Derived.JoinedOf
namespace Go.Proofs.YtnambopnacdamaaGreatDoor
open Go Go.Ai Go.ChangeShapes Go.WideShapes Go.RowKit Go.ChangeMaps
set_option maxRecDepth 100000

theorem own : ownKnob Tryz.prog.godebug = none := by kernel_rfl
theorem laidOut : laidOutB Tryz.prog = true := by kernel_rfl
theorem mixed : Tryz.prog.follows .mixedOrders = true := by kernel_rfl
theorem noGor : (Tryz.prog.funcs.toList.all fun fn => !(fn.name == "runtime.NumGoroutine")) = true := by kernel_rfl
theorem fits : Fits YT Tryz.prog := Fits.of Tryz.prog fun f fn h => by
  have := List.all_eq_true.1 noGor fn (Array.mem_toList_iff.2 (Array.mem_of_getElem? h))
  simpa using this

theorem door_met (os : Os) (args : Array Value) : laidMetH Tryz.prog Rows.nodeNoneRow.laid ((World.doorLaid Tryz.prog 400 os).forCall (fun _ _ => 0) ⟨#[], args, []⟩).memory :=
  laidMetH_of_parts3 (fuel := 8) (laidMet_of_run' 8 (by kernel_rfl) (by kernel_rfl)) (by kernel_rfl) (by kernel_rfl)

theorem sums0 : SumsOk Tryz.prog YS0 := SumsOk.add (SumOk.clone Tryz.clone_ok) (SumsOk.add (SumOk.sorted Tryz.sorted_ok) SumsOk.none)
theorem alive_ok : SumOk Tryz.prog 4 (onceS (.bool true)) := by
  obtain ⟨K, hK⟩ := KR.isTrue_spec alive_true
  exact SumOk.once (machine_sound fits mixed sums0 5000 40) hK (.bool true)
theorem sums : SumsOk Tryz.prog YS := SumsOk.add alive_ok sums0

theorem law (id nodes a b : Int) (s : ByteArray) (w : World) :
    Calls Tryz.prog 3 #[.int .i64 id, .int .i64 nodes, .agg #[.int .i64 a, .int .i64 b, .string s]] w fun e w' => e = .returned (.bool true) ∧ Below w.heap.size w w' :=
  law_call (machine_sound fits mixed sums 5000 40) (nn_true id nodes a b s.data.toList) w _
    (.cons (.int _ _) (.cons (.int _ _) (.cons (.agg (.cons (.int _ _) (.cons (.int _ _) (.cons (.str _) .nil)))) .nil)))

theorem law_lifted (os : Os) (started : os.Started) (H : Type) (enc : TypeId × Value → H) :
    ReturnsInHanded {} Tryz.checked os 3 .any (fun w args => (Rows.nodeNoneSpec.pre enc Tryz.prog Tryz.f3 [] false w args ∧ laidMetH Tryz.prog Rows.nodeNoneRow.laid w) ∧ sizedMet enc Tryz.prog Tryz.f3 (OpenSpec.ofChange Rows.nodeNoneSpec) false w args)
      (Rows.nodeNoneSpec.post enc Tryz.prog Tryz.f3 false true false false) := by
  refine returnsInHanded_of_change_and (C := Tryz.checked) (X := fun w _ => laidMetH Tryz.prog Rows.nodeNoneRow.laid w) (fun _ _ _ hh h => h.of_heap hh) own started (by kernel_rfl) Tryz.func3
    (ChangeSpec.witness_shaped (enc := enc) (C := Tryz.checked) (os := os) (X := fun w _ => laidMetH Tryz.prog Rows.nodeNoneRow.laid w) false (World.doorLaid Tryz.prog 400 os) #[.int .i64 0, .int .i64 0, .agg #[.int .i64 0, .int .i64 0, .string ⟨#[]⟩]] 8 rfl (World.shaped_of_RefB (by kernel_rfl) (by kernel_rfl)) (by kernel_rfl) (by kernel_rfl) (by kernel_rfl) (door_met os _)) ?_
  intro W base args ds gs before hval0 hW _ _ _ _
  have hval : ∀ (j : Nat) t v, Tryz.f3.params[j]? = some t → args[j]? = some v → Value.okWide Tryz.prog W .any base t v := hval0
  have hW' := hW
  obtain ⟨p, q, hA0, hV, rfl, hfz, hnd⟩ := hW
  have hA : DataW.TrodAll enc Tryz.prog W 0 (fun _ => true) true Tryz.f3.params.toList args.toList ds p := hA0
  rw [Tryz.params3] at hA hval
  obtain ⟨v0, v1, v2, d0, d1, d2, p0, p1, p2, rfl, rfl, rfl, h0, h1, h2⟩ := trodAll_three hA
  obtain ⟨rfl, rfl⟩ := trodVars_none hV
  obtain ⟨id, rfl, rfl, rfl, _⟩ := open_int Tryz.underlying3 (hval 0 3 v0 rfl rfl) h0
  obtain ⟨nodes, rfl, rfl, rfl, _⟩ := open_int Tryz.underlying3 (hval 1 3 v1 rfl rfl) h1
  obtain ⟨c0, c1, c2, y0, y1, y2, n, rfl, rfl, rfl, k0, k1, k2⟩ := Go.Joins.open_agg3 Tryz.underlying23 (by kernel_rfl) (by kernel_rfl) (hval 2 23 v2 rfl rfl) h2
  obtain ⟨a, e0, _⟩ := DataW.trod_int Tryz.underlying3 k0
  obtain ⟨b, e1, _⟩ := DataW.trod_int Tryz.underlying3 k1
  obtain ⟨s, e2, _⟩ := DataW.trod_string Tryz.underlying9 k2
  simp only [List.cons.injEq, and_true] at e0 e1 e2
  subst e0 e1 e2
  refine (law id nodes a b s W).mono fun e W' ⟨he, hB⟩ => ?_
  subst he
  exact ⟨_, rfl, law_post (tb := 4) hW' rfl rfl rfl Tryz.underlying4 laidOut (fun t ht => by
    rw [show Tryz.f3.params.toList = [3, 3, 23] from congrArg Array.toList Tryz.params3] at ht
    have hall : ([3, 3, 23].all fun u => Tryz.prog.readableRec u && decide (u < Tryz.prog.types.size)) = true := by kernel_rfl
    have hx := List.all_eq_true.1 hall t ht
    rw [Bool.and_eq_true] at hx
    exact ⟨hx.1, of_decide_eq_true hx.2⟩) hB⟩

theorem row_holds : Rows.NodeNoneSaid :=
  OpenClaim.holds_of_wide 3 Tryz.f3 rfl rfl rfl rfl rfl rfl rfl ⟨rfl, rfl, rfl, rfl, rfl⟩ rfl rfl rfl rfl rfl (by kernel_rfl) Tryz.func3 (by kernel_rfl)
    (of_decide_eq_true (by kernel_rfl)) (by unfold Func.isWrapper; first | (rw [if_pos (by decide +kernel)]; kernel_rfl) | (rw [if_neg (by decide +kernel)]; exact ⟨rfl, rfl⟩))
    (fun os started H enc _ => law_lifted os started H enc)

theorem card_holds : Rows.NodeNoneCardSaid :=
  Claim7.holds_tied_plain_at .later [] [.data, .data, .data] true (true, "d2084f0cf7fb2fffdf489cff8160eb7fe8cde0d70c6c266f81fec3906dfc8d99") true
    row_holds (fun _ h => by cases h) (by kernel_rfl) (fun _ h => by cases h) nodeNone_row_tie rfl ⟨rfl, rfl⟩ (by kernel_rfl) rfl
    (fun f fn hf hfn => by
      obtain rfl : f = 3 := Option.some.inj ((show Tryz.prog.funcNamed Rows.nodeNoneRow.func = some 3 by kernel_rfl).symm.trans hf) |>.symm
      obtain rfl : fn = Tryz.f3 := (Option.some.inj (Tryz.func3.symm.trans hfn)).symm
      exact ⟨by kernel_rfl, fun j t ht => by
        rw [Tryz.params3] at ht
        have hm : t ∈ [3, 3, 23] := by simpa using Array.mem_of_getElem? ht
        have hall : ([3, 3, 23].all fun u => !Tryz.prog.wantsStandIn u) = true := by kernel_rfl
        exact (show Tryz.prog.wantsStandIn t = false by simpa using List.all_eq_true.1 hall t hm)⟩)
    (by kernel_rfl)
#print axioms card_holds
end Go.Proofs.YtnambopnacdamaaGreatDoor
