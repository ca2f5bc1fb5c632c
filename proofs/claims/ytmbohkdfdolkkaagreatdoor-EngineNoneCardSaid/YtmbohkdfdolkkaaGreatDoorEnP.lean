/- Proved: for every command and every name the law EngineNone of chapter 18 returns true and leaves its arguments as they were. Conditions: those of the given card alone (the listed package variables start as the program's text lays them). -/
import Derived.Test.YtmbohkdfdolkkaaGreatDoorEnA
import Derived.Test.YtmbohkdfdolkkaaGreatDoorG2B
import Derived.Test.YtmbohkdfdolkkaaGreatDoorEnF1
import Derived.Test.YtmbohkdfdolkkaaGreatDoorEnF2
namespace Go.Proofs.YtmbohkdfdolkkaaGreatDoor
open Go Go.Ai Go.ChangeShapes Go.WideShapes Go.RowKit Go.ChangeMaps
set_option maxRecDepth 100000

theorem sum_ok : SumOk Tryz.prog 268 sumS := SumOk.sum fits mixed t_sum t_sumC t_s1 t_8 t_32 t_sl t_s2 t_s3
theorem sums0 : SumsOk Tryz.prog YS0 := SumsOk.add sum_ok (SumsOk.add (SumOk.clone Tryz.clone_ok) (SumsOk.add (SumOk.sorted Tryz.sorted_ok) SumsOk.none))
theorem alive_ok : SumOk Tryz.prog 37 (onceS (.bool true)) := by
  obtain ⟨K, hK⟩ := KR.isTrue_spec alive18_true
  exact SumOk.once (machine_sound fits mixed sums0 5000 40) hK (.bool true)
theorem sums : SumsOk Tryz.prog YS := SumsOk.add alive_ok sums0
theorem types36 : Tryz.prog.cellTypes Tryz.prog.depth 36 = some [3, 3, 9, 3, 32, 3, 3, 3] := by kernel_rfl
theorem cells36 : Tryz.prog.cellsOf 36 = 8 := by kernel_rfl
theorem cells34 : Tryz.prog.cellsOf 34 = 3 := by kernel_rfl
theorem cells3 : Tryz.prog.cellsOf 3 = 1 := by kernel_rfl
theorem cells9 : Tryz.prog.cellsOf 9 = 1 := by kernel_rfl
theorem cells32 : Tryz.prog.cellsOf 32 = 1 := by kernel_rfl
theorem cells40 : Tryz.prog.cellsOf 40 = 4 := by kernel_rfl

theorem len8 {α : Type} {l : List α} (h : l.length = 8) : ∃ a b c d e f g i, l = [a, b, c, d, e, f, g, i] := by
  match l, h with
  | [a, b, c, d, e, f, g, i], _ => exact ⟨a, b, c, d, e, f, g, i, rfl⟩
theorem len4 {α : Type} {l : List α} (h : l.length = 4) : ∃ a b c d, l = [a, b, c, d] := by
  match l, h with
  | [a, b, c, d], _ => exact ⟨a, b, c, d, rfl⟩

section
variable {H : Type} {enc : TypeId × Value → H} {P : Program} {w : World} {base : Nat} {spare : Nat → Bool} {held : Bool}
theorem struct6 {t : TypeId} {f0 f1 f2 f3 f4 f5 : Field} {fuel : Nat} {cs : List Value} {x : DataW H × List MemPlace} (ht : P.underlying t = some (.struct #[f0, f1, f2, f3, f4, f5])) (h : DataW.trod enc P w base spare held fuel t cs = some x) :
    ∃ n y0 y1 y2 y3 y4 y5, DataW.trod enc P w base spare held n f0.type ((cs.drop f0.offset).take (P.cellsOf f0.type)) = some y0 ∧ DataW.trod enc P w base spare held n f1.type ((cs.drop f1.offset).take (P.cellsOf f1.type)) = some y1 ∧
      DataW.trod enc P w base spare held n f2.type ((cs.drop f2.offset).take (P.cellsOf f2.type)) = some y2 ∧ DataW.trod enc P w base spare held n f3.type ((cs.drop f3.offset).take (P.cellsOf f3.type)) = some y3 ∧
      DataW.trod enc P w base spare held n f4.type ((cs.drop f4.offset).take (P.cellsOf f4.type)) = some y4 ∧ DataW.trod enc P w base spare held n f5.type ((cs.drop f5.offset).take (P.cellsOf f5.type)) = some y5 := by
  obtain ⟨xs, n, _, _, _, hl, hx⟩ := DataW.trod_struct ht h
  match xs, hl with
  | [a, b, c, d, e, f], _ => exact ⟨n, a, b, c, d, e, f, by simpa using hx 0 f0 rfl, by simpa using hx 1 f1 rfl, by simpa using hx 2 f2 rfl, by simpa using hx 3 f3 rfl, by simpa using hx 4 f4 rfl, by simpa using hx 5 f5 rfl⟩
theorem struct3 {t : TypeId} {f0 f1 f2 : Field} {fuel : Nat} {cs : List Value} {x : DataW H × List MemPlace} (ht : P.underlying t = some (.struct #[f0, f1, f2])) (h : DataW.trod enc P w base spare held fuel t cs = some x) :
    ∃ n y0 y1 y2, DataW.trod enc P w base spare held n f0.type ((cs.drop f0.offset).take (P.cellsOf f0.type)) = some y0 ∧ DataW.trod enc P w base spare held n f1.type ((cs.drop f1.offset).take (P.cellsOf f1.type)) = some y1 ∧
      DataW.trod enc P w base spare held n f2.type ((cs.drop f2.offset).take (P.cellsOf f2.type)) = some y2 := by
  obtain ⟨xs, n, _, _, _, hl, hx⟩ := DataW.trod_struct ht h
  match xs, hl with
  | [a, b, c], _ => exact ⟨n, a, b, c, by simpa using hx 0 f0 rfl, by simpa using hx 1 f1 rfl, by simpa using hx 2 f2 rfl⟩
theorem struct4 {t : TypeId} {f0 f1 f2 f3 : Field} {fuel : Nat} {cs : List Value} {x : DataW H × List MemPlace} (ht : P.underlying t = some (.struct #[f0, f1, f2, f3])) (h : DataW.trod enc P w base spare held fuel t cs = some x) :
    ∃ n y0 y1 y2 y3, DataW.trod enc P w base spare held n f0.type ((cs.drop f0.offset).take (P.cellsOf f0.type)) = some y0 ∧ DataW.trod enc P w base spare held n f1.type ((cs.drop f1.offset).take (P.cellsOf f1.type)) = some y1 ∧
      DataW.trod enc P w base spare held n f2.type ((cs.drop f2.offset).take (P.cellsOf f2.type)) = some y2 ∧ DataW.trod enc P w base spare held n f3.type ((cs.drop f3.offset).take (P.cellsOf f3.type)) = some y3 := by
  obtain ⟨xs, n, _, _, _, hl, hx⟩ := DataW.trod_struct ht h
  match xs, hl with
  | [a, b, c, d], _ => exact ⟨n, a, b, c, d, by simpa using hx 0 f0 rfl, by simpa using hx 1 f1 rfl, by simpa using hx 2 f2 rfl, by simpa using hx 3 f3 rfl⟩
end

section
variable {H : Type} {enc : TypeId × Value → H} {W : World} {base : Nat}
/-- A command that comes in, opened. -/
theorem open_cmd {v : Value} {d : DataW H} {p : List MemPlace} (hv : Value.okWide Tryz.prog W .any base 36 v) (hd : DataW.Trod enc Tryz.prog W 0 (fun _ => true) true 36 v d p) :
    ∃ (kd tm ex a b e : Int) (s : ByteArray) (c4 : Value) (n : Nat) (y : DataW H × List MemPlace), v = .agg #[.int .i64 kd, .int .i64 tm, .string s, .int .i64 ex, c4, .int .i64 a, .int .i64 b, .int .i64 e] ∧
      Cell.okWide Tryz.prog W .any base 32 c4 ∧ DataW.trod enc Tryz.prog W 0 (fun _ => true) true n 32 [c4] = some y := by
  have hv0 := hv
  obtain ⟨cs, rfl, hsz⟩ := okWide_struct Tryz.underlying36 hv
  rw [cells36] at hsz
  obtain ⟨fuel, hf⟩ := hd
  have hf : DataW.trod enc Tryz.prog W 0 (fun _ => true) true fuel 36 cs.toList = some (d, p) := hf
  obtain ⟨n, x0, x1, x2, x3, x4, x5, e0, e1, e2, e3, e4, e5⟩ := struct6 Tryz.underlying36 hf
  obtain ⟨c0, c1, c2, c3, c4, c5, c6, c7, hcs⟩ := len8 (l := cs.toList) (by simpa using hsz)
  obtain rfl : cs = #[c0, c1, c2, c3, c4, c5, c6, c7] := Array.toList_inj.1 hcs
  simp only [cells3, cells9, cells32, cells34, List.drop_zero, List.drop_succ_cons, List.take_succ_cons, List.take_zero] at e0 e1 e2 e3 e4 e5
  obtain ⟨kd, q0, _⟩ := DataW.trod_int Tryz.underlying3 e0
  obtain ⟨tm, q1, _⟩ := DataW.trod_int Tryz.underlying3 e1
  obtain ⟨s, q2, _⟩ := DataW.trod_string Tryz.underlying9 e2
  obtain ⟨ex, q3, _⟩ := DataW.trod_int Tryz.underlying3 e3
  obtain ⟨n2, y0, y1, y2, g0, g1, g2⟩ := struct3 Tryz.underlying34 e5
  simp only [cells3, List.drop_zero, List.drop_succ_cons, List.take_succ_cons, List.take_zero] at g0 g1 g2
  obtain ⟨a, q5, _⟩ := DataW.trod_int Tryz.underlying3 g0
  obtain ⟨b, q6, _⟩ := DataW.trod_int Tryz.underlying3 g1
  obtain ⟨e, q7, _⟩ := DataW.trod_int Tryz.underlying3 g2
  simp only [List.cons.injEq, and_true] at q0 q1 q2 q3 q5 q6 q7
  subst q0 q1 q2 q3 q5 q6 q7
  refine ⟨kd, tm, ex, a, b, e, s, c4, n, x4, rfl, ?_, e4⟩
  unfold Value.okWide at hv0
  rw [Tryz.underlying36] at hv0
  obtain ⟨cs', hcs', _, ts, hts, _, hall⟩ := hv0
  cases hcs'
  rw [types36] at hts
  cases hts
  obtain ⟨u, hu, hok⟩ := hall 4 c4 rfl
  have : u = 32 := by simpa using hu.symm
  subst this
  exact hok
end

theorem law (kd tm ex a b e : Int) (s nm : ByteArray) (c4 : Value) (W : World) {H : Type} {enc : TypeId × Value → H} {base n : Nat} {y : DataW H × List MemPlace} (hok : Cell.okWide Tryz.prog W .any base 32 c4) (hd : DataW.trod enc Tryz.prog W 0 (fun _ => true) true n 32 [c4] = some y) :
    Calls Tryz.prog 6 #[.agg #[.int .i64 kd, .int .i64 tm, .string s, .int .i64 ex, c4, .int .i64 a, .int .i64 b, .int .i64 e], .string nm] W fun x w' => x = .returned (.bool true) ∧ Below W.heap.size W w' := by
  have hM := machine_sound fits mixed sums 5000 40
  rcases DataW.trod_slice Tryz.underlying32 hd with ⟨h, _⟩ | ⟨ad, len, cap, _, _, _, _, h, _⟩
  · obtain rfl : c4 = .slice none 0 0 := by simpa using h
    exact law_call_at hM (m := mn) (en_nil kd tm s.data.toList ex a b e nm.data.toList) W _ (roHeap_none _ W) (roHeap_HW _)
      (.cons (.agg (.cons (.int _ _) (.cons (.int _ _) (.cons (.str _) (.cons (.int _ _) (.cons .sl0 (.cons (.int _ _) (.cons (.int _ _) (.cons (.int _ _) .nil))))))))) (.cons (.str _) .nil)) fun _ _ _ h => none_below h
  · obtain rfl : c4 = .slice (some ad) len cap := by simpa using h
    obtain ⟨bb, off, c, ty, fz, rfl, hb, hlc, hcap, hel⟩ := in_slice Tryz.underlying32 cells40 (by decide) hok hd
    refine law_call_at hM (m := m1 bb c.size) (en_list kd tm s.data.toList ex a b e nm.data.toList (c.toList.map avOf) off len 0 false fun k hk => ?_) W _ (roHeap_rel hb) (roHeap_HW _)
      (.cons (.agg (.cons (.int _ _) (.cons (.int _ _) (.cons (.str _) (.cons (.int _ _) (.cons (.sl (o := 0) (N := c.size) rfl hlc (Nat.zero_le _) hcap (.inl rfl) (fun h => by cases h)) (.cons (.int _ _) (.cons (.int _ _) (.cons (.int _ _) .nil))))))))) (.cons (.str _) .nil)) fun _ _ _ h => ro_below h
    obtain ⟨n', l, z, hl, hcl, hz⟩ := hel k hk
    obtain ⟨x0, x1, x2, x3, rfl⟩ := len4 hl
    obtain ⟨_, z0, z1, z2, z3, _, e1, e2, _⟩ := struct4 Tryz.underlying40 hz
    simp only [cells9, List.drop_zero, List.drop_succ_cons, List.take_succ_cons, List.take_zero] at e1 e2
    obtain ⟨s1, q1, _⟩ := DataW.trod_string Tryz.underlying9 e1
    obtain ⟨s2, q2, _⟩ := DataW.trod_string Tryz.underlying9 e2
    simp only [List.cons.injEq, and_true] at q1 q2
    subst q1 q2
    have r1 := hcl 1 (by decide)
    have r2 := hcl 2 (by decide)
    have f1 : off + k * 4 + 1 = off + 4 * k + 1 := by omega
    have f2 : off + k * 4 + 2 = off + 4 * k + 2 := by omega
    rw [f1] at r1
    rw [f2] at r2
    refine ⟨s1.data.toList, s2.data.toList, ?_, ?_⟩
    · rw [lnth_eq, List.getD_eq_getElem?_getD, List.getElem?_map, Array.getElem?_toList, r1]; rfl
    · rw [lnth_eq, List.getD_eq_getElem?_getD, List.getElem?_map, Array.getElem?_toList, r2]; rfl

theorem law_lifted (os : Os) (started : os.Started) (H : Type) (enc : TypeId × Value → H) :
    ReturnsInHanded {} Tryz.checked os 6 .any (fun w args => (Rows.engineNoneSpec.pre enc Tryz.prog Tryz.f6 [] false w args ∧ laidMetH Tryz.prog Rows.engineNoneRow.laid w) ∧ sizedMet enc Tryz.prog Tryz.f6 (OpenSpec.ofChange Rows.engineNoneSpec) false w args)
      (Rows.engineNoneSpec.post enc Tryz.prog Tryz.f6 false true false false) := by
  refine returnsInHanded_of_change_and (C := Tryz.checked) (X := fun w _ => laidMetH Tryz.prog Rows.engineNoneRow.laid w) (fun _ _ _ hh h => h.of_heap hh) own started (by kernel_rfl) Tryz.func6
    (ChangeSpec.witness_shaped (enc := enc) (C := Tryz.checked) (os := os) (X := fun w _ => laidMetH Tryz.prog Rows.engineNoneRow.laid w) false (World.doorLaid Tryz.prog 400 os) #[.agg #[.int .i64 0, .int .i64 0, .string ⟨#[]⟩, .int .i64 0, .slice none 0 0, .int .i64 0, .int .i64 0, .int .i64 0], .string ⟨#[]⟩] 8 rfl (door_shaped os _) (by kernel_rfl) (by kernel_rfl) (by kernel_rfl) (door_met os _)) ?_
  intro W base args ds gs before hval0 hW _ _ _ _
  have hval : ∀ (j : Nat) t v, Tryz.f6.params[j]? = some t → args[j]? = some v → Value.okWide Tryz.prog W .any base t v := hval0
  have hW' := hW
  obtain ⟨p, q, hA0, hV, rfl, hfz, hnd⟩ := hW
  have hA : DataW.TrodAll enc Tryz.prog W 0 (fun _ => true) true Tryz.f6.params.toList args.toList ds p := hA0
  rw [Tryz.params6] at hA hval
  obtain ⟨v0, v1, d0, d1, p0, p1, rfl, rfl, rfl, h0, h1⟩ := trodAll_two hA
  obtain ⟨rfl, rfl⟩ := trodVars_none hV
  obtain ⟨nm, rfl, rfl, rfl, _⟩ := open_string Tryz.underlying9 (hval 1 9 v1 rfl rfl) h1
  obtain ⟨kd, tm, ex, a, b, e, s, c4, n, y, rfl, hok, hd⟩ := open_cmd (hval 0 36 v0 rfl rfl) h0
  refine (law kd tm ex a b e s nm c4 W hok hd).mono fun x W' ⟨he, hB⟩ => ?_
  subst he
  exact ⟨_, rfl, law_post (tb := 4) hW' rfl rfl rfl Tryz.underlying4 laidOut (by
    rw [show Tryz.f6.params.toList = [36, 9] from congrArg Array.toList Tryz.params6]
    exact readable _ (by kernel_rfl)) hB⟩

theorem closed : joinedFacts Tryz.pinned.checked.prog 6 Tryz.f6 Rows.engineNoneSpec Rows.engineNoneRow = true := by
  unfold joinedFacts
  rw [en_inPlace, en_unfollowed, en_recurses, en_named, en_maps]
  kernel_rfl

theorem row_holds : Rows.EngineNoneSaid :=
  OpenClaim.holds_of_wide 6 Tryz.f6 rfl rfl rfl rfl rfl rfl rfl ⟨rfl, rfl, rfl, rfl, rfl⟩ rfl rfl rfl rfl rfl (by kernel_rfl) Tryz.func6 closed
    (of_decide_eq_true (by kernel_rfl)) (by unfold Func.isWrapper; first | (rw [if_pos (by decide +kernel)]; kernel_rfl) | (rw [if_neg (by decide +kernel)]; exact ⟨rfl, rfl⟩))
    (fun os started H enc _ => law_lifted os started H enc)

theorem card_holds : Rows.EngineNoneCardSaid :=
  Claim7.holds_tied_plain_at .later [] [.data, .data, .data] true (true, "3c5f3e770f36b152741ecbe7bccc1f93a9a51b0fc85a513accf2160a72c98999") true
    row_holds (fun _ h => by cases h) (by kernel_rfl) (fun _ h => by cases h) engineNone_row_tie rfl ⟨rfl, rfl⟩ (by kernel_rfl) rfl
    (fun f fn hf hfn => by
      obtain rfl : f = 6 := Option.some.inj ((show Tryz.prog.funcNamed Rows.engineNoneRow.func = some 6 by kernel_rfl).symm.trans hf) |>.symm
      obtain rfl : fn = Tryz.f6 := (Option.some.inj (Tryz.func6.symm.trans hfn)).symm
      exact ⟨en_looks, fun j t ht => by
        rw [Tryz.params6] at ht
        have hm : t ∈ [36, 9] := by simpa using Array.mem_of_getElem? ht
        have hall : ([36, 9].all fun u => !Tryz.prog.wantsStandIn u) = true := by kernel_rfl
        exact (show Tryz.prog.wantsStandIn t = false by simpa using List.all_eq_true.1 hall t hm)⟩)
    en_goes
#print axioms card_holds
end Go.Proofs.YtmbohkdfdolkkaaGreatDoor
