/- The order that was run, and what was looked at. -/
import Derived.Test.YtmbohkdfdolkkaaGreatDoorAiD2
namespace Go.Ai
open Go

section bits
theorem tb_eq (m i : Nat) : tb m i = m.testBit i := by
  have h : Nat.shiftRight m i = m / 2 ^ i := Nat.shiftRight_eq_div_pow m i
  unfold tb
  rw [h, Nat.testBit_eq_decide_div_mod_eq]
  by_cases e : m / 2 ^ i % 2 = 1
  · rw [decide_eq_true e]; exact beq_t e
  · rw [decide_eq_false e]; exact beq_f e
theorem tb_zero (i : Nat) : tb 0 i = false := by rw [tb_eq]; simp
theorem tb_lor (a b i : Nat) : tb (Nat.lor a b) i = (tb a i || tb b i) := by
  rw [tb_eq, tb_eq, tb_eq]; exact Nat.testBit_or a b i
theorem tb_bit (i j : Nat) : tb (Nat.shiftLeft 1 i) j = decide (i = j) := by
  rw [tb_eq]
  have : Nat.shiftLeft 1 i = 2 ^ i := Nat.one_shiftLeft i
  rw [this]; exact Nat.testBit_two_pow
theorem tb_sub {a b : Nat} (h : Nat.beq (Nat.land a b) a = true) {i : Nat} (hi : tb a i = true) : tb b i = true := by
  have h := Nat.eq_of_beq_eq_true h
  have h2 : tb (Nat.land a b) i = (tb a i && tb b i) := by rw [tb_eq, tb_eq, tb_eq]; exact Nat.testBit_and a b i
  rw [h, hi] at h2
  simpa using h2.symm
theorem tb_full {d n i : Nat} (h : d + 1 = 2 ^ n) (hi : i < n) : tb d i = true := by
  rw [tb_eq]
  have : d = 2 ^ n - 1 := by omega
  rw [this, Nat.testBit_two_pow_sub_one]; simpa using hi
end bits

theorem bindsA_eq (e : Edge) : bindsA e = Region.binds .any e := by
  obtain ⟨on, g⟩ := e
  cases g <;> rfl

theorem maskOf_spec {anc : TT Nat} {j : Nat} : ∀ {es : List Edge}, tb (maskOf anc es) j = true → ∃ e ∈ es, bindsA e = true ∧ (e.on = j ∨ tb (anc.get 0 e.on) j = true)
  | [], h => by
    have h : tb 0 j = true := h
    rw [tb_zero] at h; cases h
  | e :: es, h => by
    have h : tb (cond (bindsA e) (Nat.lor (maskOf anc es) (Nat.lor (Nat.shiftLeft 1 e.on) (anc.get 0 e.on))) (maskOf anc es)) j = true := h
    cases hb : bindsA e with
    | false =>
      rw [hb] at h
      obtain ⟨x, h1, h2⟩ := maskOf_spec (es := es) h
      exact ⟨x, List.mem_cons_of_mem _ h1, h2⟩
    | true =>
      rw [hb] at h
      have h : tb (Nat.lor (maskOf anc es) (Nat.lor (Nat.shiftLeft 1 e.on) (anc.get 0 e.on))) j = true := h
      rw [tb_lor, tb_lor, tb_bit, Bool.or_eq_true, Bool.or_eq_true] at h
      rcases h with h | h | h
      · obtain ⟨x, h1, h2⟩ := maskOf_spec (es := es) h
        exact ⟨x, List.mem_cons_of_mem _ h1, h2⟩
      · exact ⟨e, List.mem_cons_self, hb, .inl (of_decide_eq_true h)⟩
      · exact ⟨e, List.mem_cons_self, hb, .inr h⟩

/-- What was looked at before an operation was run. -/
structure Static (l : List Oper) (anc wr : TT Nat) (i : Nat) (o : Oper) (done ef : Nat) : Prop where
  new : tb done i = false
  edges : ∀ e ∈ o.after.toList, bindsA e = true → tb done e.on = true
  mask : anc.get 0 i = maskOf anc o.after.toList
  sub : ∀ j, tb (anc.get 0 i) j = true → tb done j = true
  efs : ∀ j, tb ef j = true → tb (anc.get 0 i) j = true
  looks : ∀ t ∈ looks l o, wr.get 0 t = 0 ∨ tb (anc.get 0 i) (Nat.pred (wr.get 0 t)) = true ∨ tb (anc.get 0 (Nat.pred (wr.get 0 t))) i = true
  dst : ∀ d, o.dst = some d → wr.get 0 d = i + 1

theorem lall_mem {α : Type} {f : α → Bool} {l : List α} (h : lall f l = true) : ∀ x ∈ l, f x = true := by
  rw [lall_eq, List.all_eq_true] at h; exact h

theorem chkA_cons {l : List Oper} {anc wr : TT Nat} {p : Pl} {ord : List Pl} {done ef : Nat} (h : chkA l anc wr (p :: ord) done ef = true) :
    Static l anc wr p.i p.o done ef ∧ chkA l anc wr ord (Nat.lor done (Nat.shiftLeft 1 p.i)) (cond (effA p.o) (Nat.lor ef (Nat.shiftLeft 1 p.i)) ef) = true := by
  have h : cond (tb done p.i) false
      (cond (lall (fun e => cond (bindsA e) (tb done e.on) true) p.o.after.toList)
        (cond (Nat.beq (anc.get 0 p.i) (maskOf anc p.o.after.toList))
          (cond (Nat.beq (Nat.land (anc.get 0 p.i) done) (anc.get 0 p.i))
            (cond (Nat.beq (Nat.land ef (anc.get 0 p.i)) ef)
              (cond (lall (fun t => cond (Nat.beq (wr.get 0 t) 0) true (cond (tb (anc.get 0 p.i) (Nat.pred (wr.get 0 t))) true (tb (anc.get 0 (Nat.pred (wr.get 0 t))) p.i))) (looks l p.o))
                (cond (Option.casesOn (motive := fun _ => Bool) p.o.dst true fun d => Nat.beq (wr.get 0 d) (Nat.succ p.i))
                  (chkA l anc wr ord (Nat.lor done (Nat.shiftLeft 1 p.i)) (cond (effA p.o) (Nat.lor ef (Nat.shiftLeft 1 p.i)) ef)) false) false) false) false) false) false) = true := h
  cases h0 : tb done p.i with
  | true => rw [h0] at h; cases h
  | false =>
    rw [h0] at h
    obtain ⟨h1, h⟩ := cond_cases (d := false) h (by simp)
    obtain ⟨h2, h⟩ := cond_cases (d := false) h (by simp)
    obtain ⟨h3, h⟩ := cond_cases (d := false) h (by simp)
    obtain ⟨h4, h⟩ := cond_cases (d := false) h (by simp)
    obtain ⟨h5, h⟩ := cond_cases (d := false) h (by simp)
    obtain ⟨h6, h⟩ := cond_cases (d := false) h (by simp)
    refine ⟨⟨h0, fun e he hb => ?_, Nat.eq_of_beq_eq_true h2, fun j hj => tb_sub h3 hj, fun j hj => tb_sub h4 hj, fun t ht => ?_, fun d hd => ?_⟩, h⟩
    · have := lall_mem h1 e he
      rw [hb] at this; exact this
    · have := lall_mem h5 t ht
      by_cases hz : wr.get 0 t = 0
      · exact .inl hz
      · rw [beq_f hz] at this
        have this : cond (tb (anc.get 0 p.i) (Nat.pred (wr.get 0 t))) true (tb (anc.get 0 (Nat.pred (wr.get 0 t))) p.i) = true := this
        cases hb : tb (anc.get 0 p.i) (Nat.pred (wr.get 0 t)) with
        | true => exact .inr (.inl rfl)
        | false => rw [hb] at this; exact .inr (.inr this)
    · rw [hd] at h6; exact Nat.eq_of_beq_eq_true h6

theorem lfilter_mem {α : Type} {f : α → Bool} {x : α} : ∀ {l : List α}, x ∈ lfilter f l → x ∈ l
  | [], h => h
  | a :: l, h => by
    have h : x ∈ cond (f a) (a :: lfilter f l) (lfilter f l) := h
    cases hf : f a with
    | false => rw [hf] at h; exact List.mem_cons_of_mem _ (lfilter_mem h)
    | true =>
      rw [hf] at h
      rcases List.mem_cons.1 h with h | h
      · rw [h]; exact List.mem_cons_self
      · exact List.mem_cons_of_mem _ (lfilter_mem h)

theorem plAll_mem {p : Pl} : ∀ {l : List Oper} {k : Nat} {da : TT Nat}, p ∈ plAll l k da → k ≤ p.i ∧ l[p.i - k]? = some p.o
  | [], _, _, h => by cases h
  | o :: l, k, da, h => by
    have h : p ∈ (⟨k, o, depOf da o.after.toList⟩ :: plAll l (Nat.succ k) (TT.put 0 da k (cond (effA o) (Nat.succ (depOf da o.after.toList)) (depOf da o.after.toList))) : List Pl) := h
    rcases List.mem_cons.1 h with h | h
    · subst h; exact ⟨Nat.le_refl _, by simp⟩
    · obtain ⟨h1, h2⟩ := plAll_mem h
      refine ⟨Nat.le_of_succ_le h1, ?_⟩
      have : p.i - k = (p.i - (k + 1)) + 1 := by
        have : k + 1 ≤ p.i := h1
        omega
      rw [this, List.getElem?_cons_succ]; exact h2

theorem levels_mem {p : Pl} {l : List Pl} : ∀ {n : Nat}, p ∈ levels l n → p ∈ l
  | 0, h => by cases h
  | n + 1, h => by
    have h : p ∈ lapp (levels l n) (lapp (lfilter (fun p => cond (effA p.o) false (Nat.beq p.dep n)) l) (lfilter (fun p => cond (effA p.o) (Nat.beq p.dep n) false) l)) := h
    rw [lapp_eq, lapp_eq] at h
    rcases List.mem_append.1 h with h | h
    · exact levels_mem h
    · rcases List.mem_append.1 h with h | h <;> exact lfilter_mem h

theorem orderA_mem {p : Pl} {l : List Oper} (h : p ∈ orderA l) : l[p.i]? = some p.o := by
  have := plAll_mem (levels_mem h)
  simpa using this.2

section
variable (T : Tab) (call : Caller) (l : List Oper) (anc wr : TT Nat) (ρ0 ρF : Env) (HF : Heap)

/-- What was run. -/
structure Dyn (e : Ent) (H H' : Heap) : Prop where
  wants : ∀ (α : Type) (d yes no : α), wantedA d yes no e.o.guard l e.ρ = cond e.w yes no
  does : (e.w = false ∧ H' = H ∧ e.v = undefA) ∨ (e.w = true ∧
    (opB e.o.op T e.ρ H = .val e.v H' ∨ (opB e.o.op T e.ρ H = .skip H' ∧ e.v = undefA) ∨ ∃ f args K, opB e.o.op T e.ρ H = .call f args K ∧ call f args K = .ok e.v H'))
  val : ∀ d, e.o.dst = some d → ρF.has d = true → ρF.get undefA d = e.v

/-- How the slots then were to how they end and how they began. -/
structure Slots (e : Ent) (done : Nat) : Prop where
  fin : ∀ t, tb done (Nat.pred (wr.get 0 t)) = true → ρF.get undefA t = e.ρ.get undefA t
  ini : ∀ t, (wr.get 0 t = 0 ∨ tb done (Nat.pred (wr.get 0 t)) = false) → e.ρ.get undefA t = ρ0.get undefA t

def Ok : List Ent → Nat → Nat → Heap → Prop
  | [], done, _, H => H = HF ∧ done + 1 = 2 ^ l.length
  | e :: tr, done, ef, H => e.H = H ∧ l[e.i]? = some e.o ∧ (Static l anc wr e.i e.o done ef ∧ Slots wr ρ0 ρF e done) ∧
    (∃ H', Dyn T call l ρF e H H' ∧ Ok tr (Nat.lor done (Nat.shiftLeft 1 e.i)) (cond (effA e.o) (Nat.lor ef (Nat.shiftLeft 1 e.i)) ef) H') ∧
    (e.w = true → opC e.o.op = 0 → scanA T anc e.ρ HF e.i e.o.op e.v tr = true)
end

section
variable {T : Tab} {call : Caller} {l : List Oper} {anc wr : TT Nat}

theorem get_putA (ρ : Env) (dst : Option Tmp) (v : AV) (t : Nat) : (putA ρ dst v).get undefA t = if dst = some t ∧ ρ.has t = true then v else ρ.get undefA t := by
  cases dst with
  | none => simp [putA]
  | some d =>
    show TT.get undefA (ρ.set d v) t = _
    rw [get_set]
    by_cases e : t = d
    · subst e; simp
    · simp [e, Ne.symm e]
theorem has_putA (ρ : Env) (dst : Option Tmp) (v : AV) (t : Nat) : (putA ρ dst v).has t = ρ.has t := by
  cases dst with
  | none => rfl
  | some d => exact has_set _ _ _ _

theorem cons_ok {e : Ent} {r : TrR} {tr : List Ent} {ρ : Env} {H : Heap} (h : r.cons e = .ok tr ρ H) : ∃ t, tr = e :: t ∧ r = .ok t ρ H := by
  cases r with
  | fail => cases h
  | ok t ρ' H' => cases h; exact ⟨t, rfl, rfl⟩

theorem looks_guard (o : Oper) (j : Nat) (want : Bool) (hg : o.guard = some (j, want)) {d : Nat} (hd : dstOf l j = some d) : d ∈ looks l o := by
  unfold looks
  rw [hg]
  induction opnds o.op with
  | nil =>
    show d ∈ Option.casesOn (motive := fun _ => List Nat) (dstOf l j) [] fun d => [d]
    rw [hd]; exact List.mem_cons_self
  | cons x xs ih => cases x <;> first | exact List.mem_cons_of_mem _ ih | exact ih
theorem looks_op (o : Oper) {t : Nat} (h : Operand.tmp t ∈ opnds o.op) : t ∈ looks l o := by
  unfold looks
  generalize opnds o.op = xs at h
  induction xs with
  | nil => cases h
  | cons x xs ih =>
    rcases List.mem_cons.1 h with h | h
    · subst h; exact List.mem_cons_self
    · have := ih h
      cases x <;> first | exact List.mem_cons_of_mem _ this | exact this

theorem wantedA_congr {α : Type} (d yes no : α) (o : Oper) {ρ ρ' : Env} (h : ∀ t ∈ looks l o, ρ.get undefA t = ρ'.get undefA t) : wantedA d yes no o.guard l ρ = wantedA d yes no o.guard l ρ' := by
  unfold wantedA
  cases hg : o.guard with
  | none => rfl
  | some jw =>
    obtain ⟨j, want⟩ := jw
    show (Option.casesOn (motive := fun _ => α) (dstOf l j) no fun t => (ρ.get undefA t).onGuard d no _) = Option.casesOn (motive := fun _ => α) (dstOf l j) no fun t => (ρ'.get undefA t).onGuard d no _
    cases hd : dstOf l j with
    | none => rfl
    | some t =>
      show (ρ.get undefA t).onGuard d no _ = (ρ'.get undefA t).onGuard d no _
      rw [h t (looks_guard o j want hg hd)]

theorem opB_looks (o : Oper) (H : Heap) {ρ ρ' : Env} (h : ∀ t ∈ looks l o, ρ.get undefA t = ρ'.get undefA t) : opB o.op T ρ H = opB o.op T ρ' H :=
  opB_congr o.op H fun x hx => by
    cases x with
    | tmp t => exact h t (looks_op o hx)
    | _ => rfl

theorem wantedA_w (g : Option (Nat × Bool)) (ρ : Env) : (∀ (α : Type) (d yes no : α), wantedA d yes no g l ρ = d) ∨ (∀ (α : Type) (d yes no : α), wantedA d yes no g l ρ = yes) ∨ (∀ (α : Type) (d yes no : α), wantedA d yes no g l ρ = no) := by
  cases g with
  | none => exact .inr (.inl fun _ _ _ _ => rfl)
  | some jw =>
    obtain ⟨j, want⟩ := jw
    have e : ∀ (α : Type) (d yes no : α), wantedA d yes no (some (j, want)) l ρ = Option.casesOn (motive := fun _ => α) (dstOf l j) no fun t => (ρ.get undefA t).onGuard d no fun b => cond b (cond want yes no) (cond want no yes) := fun _ _ _ _ => rfl
    cases hd : dstOf l j with
    | none => exact .inr (.inr fun α d yes no => by rw [e, hd])
    | some t =>
      cases hv : ρ.get undefA t with
      | bad => exact .inl fun α d yes no => by rw [e, hd]; simp only [hv]; rfl
      | bool b =>
        cases b <;> cases want <;> first
          | exact .inr (.inl fun α d yes no => by rw [e, hd]; simp only [hv]; rfl)
          | exact .inr (.inr fun α d yes no => by rw [e, hd]; simp only [hv]; rfl)
      | _ => exact .inr (.inr fun α d yes no => by rw [e, hd]; simp only [hv]; rfl)

/-- A step of a run. -/
theorem runA_cons {p : Pl} {ord : List Pl} {ρ ρF : Env} {H HF : Heap} {tr : List Ent} (h : runA T call l (p :: ord) ρ H = .ok tr ρF HF) :
    ∃ w v H' t, tr = ⟨p.i, p.o, w, ρ, H, v⟩ :: t ∧ runA T call l ord (putA ρ p.o.dst v) H' = .ok t ρF HF ∧ (∀ (α : Type) (d yes no : α), wantedA d yes no p.o.guard l ρ = cond w yes no) ∧
      ((w = false ∧ H' = H ∧ v = undefA) ∨ (w = true ∧ (opB p.o.op T ρ H = .val v H' ∨ (opB p.o.op T ρ H = .skip H' ∧ v = undefA) ∨ ∃ f args K, opB p.o.op T ρ H = .call f args K ∧ call f args K = .ok v H'))) := by
  have h : wantedA TrR.fail
      (OR.casesOn (motive := fun _ => TrR) (opB p.o.op T ρ H) .fail (fun v H' => (runA T call l ord (putA ρ p.o.dst v) H').cons ⟨p.i, p.o, true, ρ, H, v⟩) (fun H' => (runA T call l ord (putA ρ p.o.dst undefA) H').cons ⟨p.i, p.o, true, ρ, H, undefA⟩)
        (fun f args H1 => KR.casesOn (motive := fun _ => TrR) (call f args H1) .fail (fun v H' => (runA T call l ord (putA ρ p.o.dst v) H').cons ⟨p.i, p.o, true, ρ, H, v⟩)))
      ((runA T call l ord (putA ρ p.o.dst undefA) H).cons ⟨p.i, p.o, false, ρ, H, undefA⟩) p.o.guard l ρ = .ok tr ρF HF := h
  rcases wantedA_w (l := l) p.o.guard ρ with hw | hw | hw
  · rw [hw] at h; cases h
  · rw [hw] at h
    cases ho : opB p.o.op T ρ H with
    | fail => rw [ho] at h; cases h
    | val v H' =>
      rw [ho] at h
      obtain ⟨t, h1, h2⟩ := cons_ok h
      exact ⟨true, v, H', t, h1, h2, hw, .inr ⟨rfl, .inl rfl⟩⟩
    | skip H' =>
      rw [ho] at h
      obtain ⟨t, h1, h2⟩ := cons_ok h
      exact ⟨true, undefA, H', t, h1, h2, hw, .inr ⟨rfl, .inr (.inl ⟨rfl, rfl⟩)⟩⟩
    | call f args K =>
      rw [ho] at h
      have h : KR.casesOn (motive := fun _ => TrR) (call f args K) .fail (fun v H' => (runA T call l ord (putA ρ p.o.dst v) H').cons ⟨p.i, p.o, true, ρ, H, v⟩) = .ok tr ρF HF := h
      cases hk : call f args K with
      | fail => rw [hk] at h; cases h
      | ok v H' =>
        rw [hk] at h
        obtain ⟨t, h1, h2⟩ := cons_ok h
        exact ⟨true, v, H', t, h1, h2, hw, .inr ⟨rfl, .inr (.inr ⟨f, args, K, rfl, hk⟩)⟩⟩
  · rw [hw] at h
    obtain ⟨t, h1, h2⟩ := cons_ok h
    exact ⟨false, undefA, H, t, h1, h2, hw, .inl ⟨rfl, rfl, rfl⟩⟩

theorem runA_keeps {ρF : Env} {HF : Heap} : ∀ {ord : List Pl} {ρ : Env} {H : Heap} {tr : List Ent} {done ef : Nat}, runA T call l ord ρ H = .ok tr ρF HF → chkA l anc wr ord done ef = true →
    (∀ t, ρF.has t = ρ.has t) ∧ ∀ t, (wr.get 0 t = 0 ∨ tb done (Nat.pred (wr.get 0 t)) = true) → ρF.get undefA t = ρ.get undefA t
  | [], ρ, H, tr, done, ef, h, _ => by cases h; exact ⟨fun _ => rfl, fun _ _ => rfl⟩
  | p :: ord, ρ, H, tr, done, ef, h, hc => by
    obtain ⟨w, v, H', t, rfl, h1, _, _⟩ := runA_cons h
    obtain ⟨hs, hc'⟩ := chkA_cons hc
    obtain ⟨k1, k2⟩ := runA_keeps h1 hc'
    refine ⟨fun t => by rw [k1, has_putA], fun t ht => ?_⟩
    rw [k2 t (ht.imp id fun q => by rw [tb_lor, q]; rfl), get_putA, if_neg]
    rintro ⟨hd, _⟩
    have := hs.dst t hd
    rcases ht with ht | ht
    · omega
    · rw [this] at ht
      have ht : tb done p.i = true := ht
      rw [hs.new] at ht; cases ht

theorem stabA_cons {HF : Heap} {e : Ent} {tr : List Ent} (h : stabA T anc HF (e :: tr) = true) :
    (e.w = true → opC e.o.op = 0 → scanA T anc e.ρ HF e.i e.o.op e.v tr = true) ∧ stabA T anc HF tr = true := by
  have h : cond (cond e.w (cond (Nat.beq (opC e.o.op) 0) (scanA T anc e.ρ HF e.i e.o.op e.v tr) true) true) (stabA T anc HF tr) false = true := h
  obtain ⟨h1, h2⟩ := cond_and h
  refine ⟨fun hw hc => ?_, h2⟩
  rw [hw, beq_t hc] at h1; exact h1

theorem run_ok {ρ0 ρF : Env} {HF : Heap} : ∀ {ord : List Pl} {ρ : Env} {H : Heap} {tr : List Ent} {done ef : Nat}, runA T call l ord ρ H = .ok tr ρF HF → chkA l anc wr ord done ef = true →
    (∀ p ∈ ord, l[p.i]? = some p.o) → stabA T anc HF tr = true → (∀ t, (wr.get 0 t = 0 ∨ tb done (Nat.pred (wr.get 0 t)) = false) → ρ.get undefA t = ρ0.get undefA t) → Ok T call l anc wr ρ0 ρF HF tr done ef H
  | [], ρ, H, tr, done, ef, h, hc, _, _, _ => by
    cases h
    refine ⟨rfl, ?_⟩
    have hc : Nat.beq (Nat.succ done) (Nat.pow 2 (llen l)) = true := hc
    have := Nat.eq_of_beq_eq_true hc
    rw [llen_eq] at this; exact this
  | p :: ord, ρ, H, tr, done, ef, h, hc, hm, hst, hini => by
    have hk := (runA_keeps h hc).2
    have hhas := (runA_keeps h hc).1
    obtain ⟨w, v, H', t, rfl, h1, h2, h3⟩ := runA_cons h
    obtain ⟨hs, hc'⟩ := chkA_cons hc
    obtain ⟨st1, st2⟩ := stabA_cons hst
    refine ⟨rfl, hm p List.mem_cons_self, ⟨hs, ⟨fun t ht => hk t (.inr ht), hini⟩⟩, ⟨H', ⟨h2, h3, fun d hd hh => ?_⟩, run_ok h1 hc' (fun q hq => hm q (List.mem_cons_of_mem _ hq)) st2 fun t ht => ?_⟩, st1⟩
    · obtain ⟨_, k2⟩ := runA_keeps h1 hc'
      have hd' : p.o.dst = some d := hd
      have hwr := hs.dst d hd'
      have := k2 d (.inr (by rw [hwr]; show tb _ p.i = true; rw [tb_lor, tb_bit, decide_eq_true rfl, Bool.or_true]))
      rw [this, get_putA, if_pos ⟨hd', by rw [← hhas]; exact hh⟩]
    · have hne : p.o.dst ≠ some t := by
        intro hd
        have hwr := hs.dst t hd
        rcases ht with ht | ht
        · omega
        · rw [hwr] at ht
          have ht : tb (Nat.lor done (Nat.shiftLeft 1 p.i)) p.i = false := ht
          rw [tb_lor, tb_bit, decide_eq_true rfl, Bool.or_true] at ht; cases ht
      rw [get_putA, if_neg (fun q => hne q.1)]
      refine hini t (ht.imp id fun q => ?_)
      rw [tb_lor, Bool.or_eq_false_iff] at q
      exact q.1
end
end Go.Ai
