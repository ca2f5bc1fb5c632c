/- strings.Clone; tables of summaries. -/
import Derived.Test.YtmbohkdfdolkkaaGreatDoorAiS1
namespace Go.Ai
open Go Go.RowKit

noncomputable def cloneS (args : List AV) (H : Heap) : SR := args1 .fail (fun x => x.onStr .fail fun s => cond (Nat.ble (llen s) most) (.ok (.str s) H) .fail) args
def CloneOk (P : Program) (f : FuncId) : Prop := ∀ (s : ByteArray) (w : World), s.size ≤ 281474976710656 → Calls P f #[.string s] w fun e w' => e = .returned (.string s) ∧ Below w.heap.size w w'

theorem cloneS_sound {P : Program} {f : FuncId} (hC : CloneOk P f) {args : List AV} {H H' : Heap} {v : AV} (h : cloneS args H = .ok v H') {m : Mp} {w : World} {args' : Array Value} (hr : Rel m H w) (hw : HW H) (ha : VRs m args args'.toList) :
    Calls P f args' w (Post m H w v H') := by
  obtain ⟨x, rfl, h1⟩ := args1_cases (d := SR.fail) h (by simp)
  obtain ⟨s, rfl, h2⟩ := onStr_cases h1 (by simp)
  obtain ⟨hl, h3⟩ := cond_cases h2 (by simp)
  cases h3
  obtain ⟨x', rfl, hx⟩ := vrs_one ha
  cases hx with
  | str s =>
    rw [ble_iff, llen_eq] at hl
    refine (hC s w ?_).mono ?_
    · have : s.data.toList.length = s.size := by simp
      rw [this] at hl
      have : (70368744177664 : Nat) ≤ 281474976710656 := by decide
      exact Nat.le_trans hl this
    · rintro e w' ⟨rfl, hb⟩
      exact .inr ⟨_, m, rfl, .str s, Step.below hr hw hb⟩

/-- One summary. -/
def SumOk (P : Program) (f : FuncId) (s : List AV → Heap → SR) : Prop :=
  ∀ args H v H', s args H = .ok v H' → ∀ m w args', Rel m H w → HW H → VRs m args args'.toList → Calls P f args' w (Post m H w v H')
noncomputable def addS (f : FuncId) (s : List AV → Heap → SR) (S : Sums) : Sums := fun g args H => cond (Nat.beq g f) (s args H) (S g args H)
def noS : Sums := fun _ _ _ => .no

theorem SumsOk.none {P : Program} : SumsOk P noS := fun _ _ _ _ _ h => by cases h
theorem SumsOk.add {P : Program} {f : FuncId} {s : List AV → Heap → SR} {S : Sums} (h : SumOk P f s) (k : SumsOk P S) : SumsOk P (addS f s S) := by
  intro g args H v H' he
  have he : cond (Nat.beq g f) (s args H) (S g args H) = .ok v H' := he
  by_cases hg : g = f
  · subst hg
    rw [beq_t rfl] at he
    exact h args H v H' he
  · rw [beq_f hg] at he
    exact k g args H v H' he

theorem SumOk.clone {P : Program} {f : FuncId} (h : CloneOk P f) : SumOk P f cloneS := fun _ _ _ _ he _ _ _ hr hw ha => cloneS_sound h he hr hw ha
theorem SumOk.sorted {P : Program} {f g : FuncId} (h : SortedOk P f g) : SumOk P f (sortedS g) := fun _ _ _ _ he _ _ _ hr hw ha => sortedS_sound h he hr hw ha

/-- A call without arguments, whose answer speaks of no object: run once in empty memory. -/
noncomputable def onceS (v : AV) (args : List AV) (H : Heap) : SR := List.casesOn args (.ok v H) fun _ _ => .fail
theorem SumOk.once {P : Program} {call : Caller} (hc : CallerOk P call) {f : FuncId} {v : AV} {H' : Heap} (h : call f [] Hn = .ok v H') (hv : Free v) : SumOk P f (onceS v) := by
  intro args H u K he m w args' hr hw ha
  cases args with
  | cons _ _ => cases he
  | nil => cases he; exact frame_rule hc h .nil hv m H w args' hr hw ha

/-- What a call comes to, asked by the kernel: its answer alone. -/
noncomputable def KR.val (r : KR) : AV := KR.casesOn r .bad fun v _ => v
noncomputable def KR.isOk (r : KR) : Bool := KR.casesOn r false fun _ _ => true
noncomputable def KR.isTrue (r : KR) : Bool := KR.casesOn r false fun v _ => v.onBool false fun b => b
theorem KR.isTrue_spec {r : KR} (h : r.isTrue = true) : ∃ H', r = .ok (.bool true) H' := by
  cases r with
  | fail => cases h
  | ok v H =>
    obtain ⟨b, rfl, h1⟩ := onBool_cases (d := false) (f := fun b => b) (show v.onBool false (fun b => b) = true from h) (by simp)
    exact ⟨H, by rw [h1]⟩
end Go.Ai
