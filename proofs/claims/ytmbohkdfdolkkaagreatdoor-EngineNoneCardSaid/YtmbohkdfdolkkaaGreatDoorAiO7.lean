/- Slices of slices, of texts and of arrays. -/
import Derived.Test.YtmbohkdfdolkkaaGreatDoorAiO6
namespace Go.Ai
open Go
section
variable {P : Program} {T : Tab} {m : Mp}

theorem bound_cases {α : Type} {d : α} {x : Option Operand} {e : Nat} {ρ : Env} {f : Nat → α} {r : α} (h : bound d x e ρ f = r) (hr : r ≠ d) :
    ∃ n, f n = r ∧ ((x = none ∧ n = e) ∨ ∃ y k, x = some y ∧ ev y ρ = .int k (.ofNat n)) := by
  cases x with
  | none => exact ⟨e, h, .inl ⟨rfl, rfl⟩⟩
  | some y =>
    have h : natOf d f (ev y ρ) = r := h
    obtain ⟨k, n, h1, h2⟩ := natOf_cases h hr
    exact ⟨n, h2, .inr ⟨y, k, rfl, h1⟩⟩

/-- What a bound stands for, really. -/
def Bd (x : Option Value) (e n : Nat) : Prop := (x = none ∧ n = e) ∨ ∃ k, x = some (.int k (.ofNat n))
theorem Bd.of {x : Option Operand} {e n : Nat} {ρ : Env} {σ : Operand → Value} (hσ : ∀ x, VR m (ev x ρ) (σ x)) (h : (x = none ∧ n = e) ∨ ∃ y k, x = some y ∧ ev y ρ = .int k (.ofNat n)) : Bd (x.map σ) e n := by
  rcases h with ⟨rfl, rfl⟩ | ⟨y, k, rfl, hy⟩
  · exact .inl ⟨rfl, rfl⟩
  · refine .inr ⟨k, ?_⟩
    have := hσ y
    rw [hy] at this
    show some (σ y) = _
    generalize σ y = s at this ⊢
    cases this; rfl

theorem run_bound (n y : Nat) (k : IntKind) (code : BoundsCode) (h : n ≤ y) (w : World) : (Instr.sliceBound (.int k (.ofNat n)) y code).run P w = .ok n w := by
  have : (0 : Int) ≤ Int.ofNat n ∧ Int.ofNat n ≤ (y : Int) := ⟨ofNat_nonneg n, by show (n : Int) ≤ y; omega⟩
  simp [Instr.sliceBound, asIntOf, h]

theorem run_bounds {isSlice : Bool} {len cap l h k : Nat} {lo hi mx : Option Value} (h1 : Bd lo 0 l) (h2 : Bd hi len h) (h3 : Bd mx cap k) (hl : l ≤ h) (hh : h ≤ k) (hk : k ≤ cap) (hm : mx.isSome = true → hi.isSome = true) (w : World) :
    (Instr.sliceBounds isSlice len cap lo hi mx).run P w = .ok (l, h, k) w := by
  rcases h3 with ⟨rfl, rfl⟩ | ⟨k3, rfl⟩
  · rcases h2 with ⟨rfl, rfl⟩ | ⟨k2, rfl⟩
    · rcases h1 with ⟨rfl, rfl⟩ | ⟨k1, rfl⟩
      · simp [Instr.sliceBounds]
      · have := fun c => run_bound (P := P) l h k1 c hl w
        simp only [Int.ofNat_eq_natCast] at this
        simp [Instr.sliceBounds, this]
    · have t2 := fun c => run_bound (P := P) h k k2 c hh w
      simp only [Int.ofNat_eq_natCast] at t2
      rcases h1 with ⟨rfl, rfl⟩ | ⟨k1, rfl⟩
      · simp [Instr.sliceBounds, t2]
      · have := fun c => run_bound (P := P) l h k1 c hl w
        simp only [Int.ofNat_eq_natCast] at this
        simp [Instr.sliceBounds, t2, this]
  · have t3 := fun c => run_bound (P := P) k cap k3 c hk w
    simp only [Int.ofNat_eq_natCast] at t3
    rcases h2 with ⟨rfl, rfl⟩ | ⟨k2, rfl⟩
    · simp at hm
    · have t2 := fun c => run_bound (P := P) h k k2 c hh w
      simp only [Int.ofNat_eq_natCast] at t2
      rcases h1 with ⟨rfl, rfl⟩ | ⟨k1, rfl⟩
      · simp [Instr.sliceBounds, t2, t3]
      · have := fun c => run_bound (P := P) l h k1 c hl w
        simp only [Int.ofNat_eq_natCast] at this
        simp [Instr.sliceBounds, t2, t3, this]

theorem cond_true {a b : Bool} (h : cond a b true = true) : a = true → b = true := by rintro rfl; exact h

theorem slice_sound (hT : Fits T P) {H H' : Heap} {w : World} (hr : Rel m H w) (hw : HW H) {t : TypeId} {x : Operand} {lo hi mx : Option Operand} {ρ : Env} {σ : Operand → Value} (hσ : ∀ x, VR m (ev x ρ) (σ x)) {v : AV}
    (h : sliceA T t x lo hi mx ρ H = .val v H') : Gives P m H w (Instr.sliceAt t (σ x) (lo.map σ) (hi.map σ) (mx.map σ)) v H' := by
  have hx := hσ x
  generalize σ x = x' at hx ⊢
  unfold sliceA at h
  generalize ev x ρ = xv at h hx
  cases hx <;> try (cases h; done)
  case str s =>
    have h : cond (T.kind t).isString (Option.casesOn (motive := fun _ => OR) mx
      (bound .fail hi (llen s.data.toList) ρ fun h => bound .fail lo 0 ρ fun l => cond (cond (Nat.ble l h) (Nat.ble h (llen s.data.toList)) false) (.val (.str (ltake (Nat.sub h l) (ldrop l s.data.toList))) H) .fail) (fun _ => .fail)) .fail = .val v H' := h
    obtain ⟨hk, h⟩ := cond_cases h (by simp)
    have hu := kindOf_string (hT.kind (TK.isString_iff hk) (by simp))
    cases mx with
    | some _ => cases h
    | none =>
      obtain ⟨hn, h, b2⟩ := bound_cases (d := OR.fail) h (by simp)
      obtain ⟨ln, h, b1⟩ := bound_cases (d := OR.fail) h (by simp)
      obtain ⟨hc, h⟩ := cond_cases h (by simp)
      obtain ⟨c1, c2⟩ := cond_and hc
      cases h
      rw [ble_iff] at c1 c2
      rw [llen_eq] at c2
      have hsz : s.data.toList.length = s.size := Array.length_toList
      rw [hsz] at c2
      rw [llen_eq, hsz] at b2
      have hrun := run_bounds (P := P) (isSlice := false) (len := s.size) (cap := s.size) (k := s.size) (Bd.of hσ b1) (Bd.of hσ b2) (mx := none) (.inl ⟨rfl, rfl⟩) c1 c2 (Nat.le_refl _) (by simp) w
      refine ⟨.string (s.extract ln hn), w, m, ?_, ?_, .refl hr hw⟩
      · simp [Instr.sliceAt, run_underlying hu, Instr.slice, hrun]
      · have : (s.extract ln hn).data.toList = (s.data.toList.drop ln).take (hn - ln) := by
          rw [ByteArray.data_extract, Array.toList_extract, List.extract_eq_take_drop]
        rw [ltake_eq, ldrop_eq]
        show VR m (.str ((s.data.toList.drop ln).take (hn - ln))) _
        rw [← this]; exact .str _
  case ptr o b N off hm =>
    have h : (T.kind t).onArray .fail (fun n es _ => bound .fail mx n ρ fun m => bound .fail hi n ρ fun h => bound .fail lo 0 ρ fun l =>
      cond (cond (Nat.ble l h) (cond (Nat.ble h m) (cond (Nat.ble m n) (cond mx.isSome hi.isSome true) false) false) false) (CR.casesOn (motive := fun _ => OR) (H.cells? o) .fail fun cs _ => cond (Nat.ble (Nat.add off (Nat.mul n es)) (llen cs)) (.val (.sl o (Nat.add off (Nat.mul l es)) (Nat.sub h l) (Nat.sub m l) true es) H) .fail) .fail) = .val v H' := h
    obtain ⟨n, es, ag, hk, h⟩ := onArray_cases h (by simp)
    obtain ⟨mn, h, b3⟩ := bound_cases h (by simp)
    obtain ⟨hn, h, b2⟩ := bound_cases (d := OR.fail) h (by simp)
    obtain ⟨ln, h, b1⟩ := bound_cases (d := OR.fail) h (by simp)
    obtain ⟨hc, h⟩ := cond_cases h (by simp)
    obtain ⟨c1, hc⟩ := cond_and hc
    obtain ⟨c2, hc⟩ := cond_and hc
    obtain ⟨c3, hc⟩ := cond_and hc
    have c4 := cond_true hc
    obtain ⟨cs, sh, hcs, h⟩ := cr_cases h (by simp)
    obtain ⟨hlen, h⟩ := cond_cases h (by simp)
    cases h
    rw [ble_iff] at c1 c2 c3 hlen
    rw [llen_eq] at hlen
    have hlen : off + n * es ≤ cs.length := hlen
    have hNle := (hr.sure o b N cs sh hm hcs).1
    obtain ⟨e, ie, d, hu, hie, rfl, hd, _⟩ := kindOf_array (hT.kind hk (by simp))
    have hrun := run_bounds (P := P) (isSlice := false) (len := n) (cap := n) (Bd.of hσ b1) (Bd.of hσ b2) (Bd.of hσ b3) c1 c2 c3 (by simpa using c4) w
    refine ⟨.slice (some (if mn = ln then ⟨b, off, none⟩ else Addr.add ⟨b, off, none⟩ (ln * ie.size))) (hn - ln) (mn - ln), w, m, ?_, ?_, .refl hr hw⟩
    · simp [Instr.sliceAt, run_underlying hu, Instr.sureAddr, hrun, sizeOf, typeInfo, hie]
    · have hmul : ln * ie.size + (mn - ln) * ie.size = mn * ie.size := by rw [← Nat.add_mul]; congr 1; omega
      have hle : mn * ie.size ≤ n * ie.size := Nat.mul_le_mul_right _ c3
      by_cases hml : mn = ln
      · rw [if_pos hml]
        exact .sl hm (by show hn - ln ≤ _; omega) (Nat.le_refl _) (by rw [hml]; simp; omega) (.inr (by omega)) (fun _ => rfl)
      · rw [if_neg hml, addr_add]
        exact .sl hm (by show hn - ln ≤ _; omega) (Nat.le_refl _) (by omega) (.inl rfl) (fun _ => rfl)
  case sl0 =>
    have h : cond (T.kind t).isSlice (bound .fail mx 0 ρ fun m => bound .fail hi 0 ρ fun h => bound .fail lo 0 ρ fun l =>
      cond (cond (Nat.ble l h) (cond (Nat.ble h m) (cond (Nat.ble m 0) (cond mx.isSome hi.isSome true) false) false) false) (OR.val .sl0 H) .fail) .fail = .val v H' := h
    obtain ⟨hk, h⟩ := cond_cases h (by simp)
    obtain ⟨_, _, _, _, he⟩ := TK.isSlice_iff hk
    obtain ⟨e, ie, _, hu, hie, _⟩ := kindOf_slice (hT.kind he (by simp))
    obtain ⟨mn, h, b3⟩ := bound_cases h (by simp)
    obtain ⟨hn, h, b2⟩ := bound_cases (d := OR.fail) h (by simp)
    obtain ⟨ln, h, b1⟩ := bound_cases (d := OR.fail) h (by simp)
    obtain ⟨hc, h⟩ := cond_cases h (by simp)
    obtain ⟨c1, hc⟩ := cond_and hc
    obtain ⟨c2, hc⟩ := cond_and hc
    obtain ⟨c3, hc⟩ := cond_and hc
    have c4 := cond_true hc
    cases h
    rw [ble_iff] at c1 c2 c3
    have hrun := run_bounds (P := P) (isSlice := true) (len := 0) (cap := 0) (Bd.of hσ b1) (Bd.of hσ b2) (Bd.of hσ b3) c1 c2 c3 (by simpa using c4) w
    have e1 : mn = 0 := by omega
    have e2 : hn = 0 := by omega
    have e3 : ln = 0 := by omega
    subst e1; subst e2; subst e3
    refine ⟨.slice none 0 0, w, m, ?_, .sl0, .refl hr hw⟩
    simp [Instr.sliceAt, run_underlying hu, Instr.slice, hrun, sizeOf, typeInfo, hie]
  case sl o b N off off' len cap cap' ex es hm hl hc' hN ho hex =>
    have h : (T.kind t).onSlice .fail (fun es' _ _ _ => cond (Nat.beq es es')
      (bound .fail mx cap ρ fun m => bound .fail hi len ρ fun h => bound .fail lo 0 ρ fun l =>
        cond (cond (Nat.ble l h) (cond (Nat.ble h m) (cond (Nat.ble m cap) (cond mx.isSome hi.isSome true) false) false) false)
          (OR.val (.sl o (Nat.add off (Nat.mul l es)) (Nat.sub h l) (Nat.sub m l) (or ex mx.isSome) es) H) .fail) .fail) = .val v H' := h
    obtain ⟨es', eb, zc, u8, hk, h⟩ := onSlice_cases h (by simp)
    obtain ⟨hes, h5⟩ := cond_cases h (by simp)
    clear h
    have hes := Nat.eq_of_beq_eq_true hes
    subst hes
    obtain ⟨e, ie, z, hu, hie, rfl, rfl, _⟩ := kindOf_slice (hT.kind hk (by simp))
    have h := h5
    clear h5
    obtain ⟨mn, h, b3⟩ := bound_cases (d := OR.fail) h (by simp)
    obtain ⟨hn, h, b2⟩ := bound_cases (d := OR.fail) h (by simp)
    obtain ⟨ln, h, b1⟩ := bound_cases (d := OR.fail) h (by simp)
    obtain ⟨hc, h⟩ := cond_cases h (by simp)
    obtain ⟨c1, hc⟩ := cond_and hc
    obtain ⟨c2, hc⟩ := cond_and hc
    obtain ⟨c3, hc⟩ := cond_and hc
    have c4 := cond_true hc
    cases h
    rw [ble_iff] at c1 c2 c3
    obtain ⟨mc, hmc, hmc1, hmc2⟩ : ∃ mc, Bd (mx.map σ) cap' mc ∧ (mx = none → mc = cap') ∧ (mx.isSome = true → mc = mn) := by
      cases mx with
      | none => exact ⟨cap', .inl ⟨rfl, rfl⟩, fun _ => rfl, by simp⟩
      | some y =>
        refine ⟨mn, ?_, by simp, fun _ => rfl⟩
        have hb := Bd.of hσ b3
        rcases hb with ⟨h1, _⟩ | h2
        · cases h1
        · exact .inr h2
    have hmcle : mn ≤ mc ∧ mc ≤ cap' := by
      cases mx with
      | none =>
        rcases b3 with ⟨_, rfl⟩ | ⟨y, k, h1, _⟩
        · rw [hmc1 rfl]; exact ⟨hc', Nat.le_refl _⟩
        · cases h1
      | some y => rw [hmc2 rfl]; omega
    have hrun := run_bounds (P := P) (isSlice := true) (len := len) (cap := cap') (Bd.of hσ b1) (Bd.of hσ b2) hmc c1 (by omega) hmcle.2 (by simpa using c4) w
    refine ⟨.slice (if mc = ln then some ⟨b, off', none⟩ else some (Addr.add ⟨b, off', none⟩ (ln * ie.size))) (hn - ln) (mc - ln), w, m, ?_, ?_, .refl hr hw⟩
    · simp [Instr.sliceAt, run_underlying hu, Instr.slice, hrun, sizeOf, typeInfo, hie]
    · have hmul : ln * ie.size + (mc - ln) * ie.size = mc * ie.size := by rw [← Nat.add_mul]; congr 1; omega
      have hle : mc * ie.size ≤ cap' * ie.size := Nat.mul_le_mul_right _ hmcle.2
      have hexact : (or ex mx.isSome) = true → mc - ln = Nat.sub mn ln := by
        intro hx
        cases hmx : mx.isSome with
        | true => rw [hmc2 hmx]; rfl
        | false =>
          rw [hmx] at hx
          simp at hx
          have : mx = none := by simpa using hmx
          rw [hmc1 this, hex hx]
          subst this
          rcases b3 with ⟨_, rfl⟩ | ⟨y, k, h1, _⟩
          · rfl
          · cases h1
      by_cases hml : mc = ln
      · rw [if_pos hml]
        exact .sl hm (by show hn - ln ≤ _; omega) (by show mn - ln ≤ _; omega) (by rw [hml]; simp; omega) (.inr (by omega)) hexact
      · rw [if_neg hml, addr_add]
        refine .sl hm (by show hn - ln ≤ _; omega) (by show mn - ln ≤ _; omega) (by omega) (.inl ?_) hexact
        rcases ho with h | h
        · rw [h]; rfl
        · omega
end
end Go.Ai
