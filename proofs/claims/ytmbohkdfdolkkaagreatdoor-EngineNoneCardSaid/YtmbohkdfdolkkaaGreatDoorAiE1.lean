/- Slots; results; regions in the order of the text. -/
import Derived.Test.YtmbohkdfdolkkaaGreatDoorAiO13
import Derived.Calls
namespace Go.Ai
open Go
section
variable {P : Program} {T : Tab} {m : Mp}

/-- What is known of a frame's slots. -/
structure EnvR (m : Mp) (ρ : Env) (a : Act) : Prop where
  get : ∀ t, VR m (ρ.get undefA t) (a.tmps.getD t undef)
  has : ∀ t, ρ.has t = decide (t < a.tmps.size)
  defers : a.defers = []

theorem undef_VR : VR m undefA undef := .tup .nil

theorem EnvR.mono {m m' : Mp} (hm : m.le m') {ρ : Env} {a : Act} (h : EnvR m ρ a) : EnvR m' ρ a := ⟨fun t => (h.get t).mono hm, h.has, h.defers⟩

theorem EnvR.ev {ρ : Env} {a : Act} (h : EnvR m ρ a) (x : Operand) : VR m (ev x ρ) (a.eval x) := VR.ev h.get x

theorem put_size (a : Act) (dst : Option Tmp) (v : Value) : (a.put dst v).tmps.size = a.tmps.size := by
  cases dst <;> simp [Act.put]
theorem put_defers (a : Act) (dst : Option Tmp) (v : Value) : (a.put dst v).defers = a.defers := by
  cases dst <;> simp [Act.put]

theorem EnvR.put {ρ : Env} {a : Act} (h : EnvR m ρ a) (dst : Option Tmp) {v : AV} {v' : Value} (hv : VR m v v') : EnvR m (putA ρ dst v) (a.put dst v') := by
  refine ⟨fun t => ?_, fun t => ?_, by rw [put_defers]; exact h.defers⟩
  · cases dst with
    | none => exact h.get t
    | some d =>
      show VR m (TT.get undefA (ρ.set d v) t) ((a.tmps.setIfInBounds d v').getD t undef)
      rw [get_set, h.has]
      simp only [Array.getD_eq_getD_getElem?, Array.getElem?_setIfInBounds, decide_eq_true_eq]
      by_cases e : t = d
      · subst e
        by_cases hl : t < a.tmps.size
        · rw [if_pos ⟨rfl, hl⟩, if_pos rfl, if_pos hl]; exact hv
        · rw [if_neg (fun q => hl q.2), if_pos rfl, if_neg hl]
          have := h.get t
          rw [Array.getD_eq_getD_getElem?, Array.getElem?_eq_none (by omega)] at this
          exact this
      · rw [if_neg (fun q => e q.1), if_neg (Ne.symm e)]
        have := h.get t
        rw [Array.getD_eq_getD_getElem?] at this
        exact this
  · rw [put_size]
    cases dst with
    | none => exact h.has t
    | some d => show TT.has (ρ.set d v) t = _; rw [has_set]; exact h.has t

theorem initA_sound {args : List AV} {args' : Array Value} (h : VRs m args args'.toList) (n : Nat) :
    EnvR m (initA args (cond (Nat.ble (llen args) n) n (llen args))) { tmps := args' ++ Array.replicate (n - args'.size) undef, defers := [] } := by
  have hl : llen args = args'.size := by rw [llen_eq, h.length]; simp
  have hmax : cond (Nat.ble (llen args) n) n (llen args) = args'.size + (n - args'.size) := by
    rw [hl, ble_dec]
    by_cases hq : args'.size ≤ n
    · rw [decide_eq_true hq]; show n = _; omega
    · rw [decide_eq_false hq]; show args'.size = _; omega
  rw [hmax]
  refine ⟨fun t => ?_, fun t => ?_, rfl⟩
  · show VR m (TT.get undefA (TT.mk (fun i => lnth undefA args i) _) t) _
    rw [get_mk, lnth_eq]
    simp only [Array.getD_eq_getD_getElem?, Array.getElem?_append, List.getD_eq_getElem?_getD]
    by_cases ht : t < args'.size
    · rw [if_pos (by omega), if_pos ht]
      obtain ⟨a, ha⟩ : ∃ a, args[t]? = some a := ⟨_, List.getElem?_eq_getElem (by rw [← llen_eq, hl]; exact ht)⟩
      obtain ⟨v, hv, hv2⟩ := h.get ha
      rw [Array.getElem?_toList] at hv
      rw [ha, hv]; exact hv2
    · rw [if_neg ht]
      have : args[t]? = none := List.getElem?_eq_none (by rw [← llen_eq, hl]; omega)
      rw [this]
      have : ((Array.replicate (n - args'.size) undef)[t - args'.size]?).getD undef = undef := by
        rw [Array.getElem?_replicate]; split <;> rfl
      rw [this]
      split <;> exact undef_VR
  · show TT.has (TT.mk _ _) t = _
    rw [has_mk]; simp

def resultS (a : Act) (r : ResultVar) : Sem Value := match r with | .tmp t => pure (a.tmps.getD t undef) | .cell x t => do loadVar t (← asAddr (a.tmps.getD x undef))

theorem resultA_sound (hT : Fits T P) {H : Heap} {w : World} (hr : Rel m H w) {ρ : Env} {a : Act} (h : EnvR m ρ a) {r : ResultVar} {v : AV} (he : resultA T ρ H r = some v) :
    ∃ v', (resultS a r).run P w = .ok v' w ∧ VR m v v' := by
  cases r with
  | tmp t => cases he; exact ⟨_, rfl, h.get t⟩
  | cell x t =>
    have he : OR.casesOn (motive := fun _ => Option AV) (loadA T t (ρ.get undefA x) H) none (fun v _ => some v) (fun _ => none) (fun _ _ _ => none) = some v := he
    cases hl : loadA T t (ρ.get undefA x) H with
    | val u H' =>
      rw [hl] at he
      cases he
      obtain ⟨o, off, cs, sh, hx, hk, hc, e⟩ := loadA_cases hl (by simp)
      obtain ⟨rfl, rfl, hb⟩ := OR.of_val e.symm
      have hp := h.get x
      rw [hx] at hp
      generalize hs : a.tmps.getD x undef = p at hp
      cases hp with
      | ptr off hm =>
        obtain ⟨d, i, hu, hi, hs', hag⟩ := TI_known hT hk
        rw [hs', hag] at hb ⊢
        obtain ⟨v', h1, h2⟩ := partA_load hr hm hc hu hi rfl hb
        exact ⟨v', by simp [resultS, hs, asAddr, h1], h2⟩
    | _ => rw [hl] at he; cases he

theorem resultsL_sound (hT : Fits T P) {H : Heap} {w : World} (hr : Rel m H w) {ρ : Env} {a : Act} (h : EnvR m ρ a) : ∀ {rs : List ResultVar} {vs : List AV}, resultsL T ρ H rs = some vs →
    ∃ vs', (rs.mapM (resultS a)).run P w = .ok vs' w ∧ VRs m vs vs'
  | [], vs, e => by cases e; exact ⟨[], rfl, .nil⟩
  | r :: rs, vs, e => by
    have e : Option.casesOn (motive := fun _ => Option (List AV)) (resultA T ρ H r) none (fun v => Option.casesOn (motive := fun _ => Option (List AV)) (resultsL T ρ H rs) none fun vs => some (v :: vs)) = some vs := e
    obtain ⟨v, h1, e2⟩ := opt_cases e (by simp)
    obtain ⟨us, h2, e3⟩ := opt_cases e2 (by simp)
    cases e3
    obtain ⟨v', g1, g2⟩ := resultA_sound hT hr h h1
    obtain ⟨us', g3, g4⟩ := resultsL_sound hT hr h h2
    exact ⟨v' :: us', by simp [List.mapM_cons, g1, g3], .cons g2 g4⟩

theorem oneOf_sound {vs : List AV} {vs' : List Value} (h : VRs m vs vs') : VR m (oneOf vs) (if h : vs'.toArray.size = 1 then vs'.toArray[0] else .tuple vs'.toArray) := by
  cases h with
  | nil => exact .tup .nil
  | cons h t =>
    cases t with
    | nil => exact h
    | cons h2 t => exact .tup (.cons h (.cons h2 t))

theorem results_sound (hT : Fits T P) {H H' : Heap} {w : World} (hr : Rel m H w) {ρ : Env} {a : Act} (h : EnvR m ρ a) {fn : Func} {v : AV} (he : resultsA T fn.results.toList ρ H = .ok v H') :
    H' = H ∧ ∃ v', (results fn a.tmps).run P w = .ok v' w ∧ VR m v v' := by
  unfold resultsA at he
  cases hs : resultsL T ρ H fn.results.toList with
  | none => rw [hs] at he; cases he
  | some vs =>
    rw [hs] at he
    cases he
    obtain ⟨vs', h1, h2⟩ := resultsL_sound hT hr h hs
    refine ⟨rfl, _, ?_, oneOf_sound h2⟩
    have e : (fn.results.mapM (resultS a)).run P w = .ok vs'.toArray w := by
      rw [Array.mapM_eq_mapM_toList]
      simp [h1]
    unfold results
    show Sem.run P (fn.results.mapM (resultS a) >>= fun vs => pure (if h : vs.size = 1 then vs[0] else .tuple vs)) w = _
    simp only [Sem.run_bind, e, Result.andThen]
    rfl
end
end Go.Ai
