/- Regions whose order is drawn: sound. -/
import Derived.Test.YtmbohkdfdolkkaaGreatDoorAiD4
import Derived.Orders
namespace Go.Ai
open Go

theorem get_not_has {α : Type} (d : α) (t : TT α) : ∀ i, TT.has t i = false → TT.get d t i = d := by
  induction t with
  | e => intro i _; rfl
  | n v l r ihl ihr =>
    intro i h
    have h : cond (Nat.beq i 0) true (cond (Nat.beq (Nat.mod i 2) 1) (TT.has l (half i)) (TT.has r (half i))) = false := h
    show cond (Nat.beq i 0) v (cond (Nat.beq (Nat.mod i 2) 1) (TT.get d l (half i)) (TT.get d r (half i))) = d
    cases h0 : Nat.beq i 0 with
    | true => rw [h0] at h; cases h
    | false =>
      rw [h0] at h
      cases h1 : Nat.beq (Nat.mod i 2) 1 with
      | true => rw [h1] at h; exact ihl _ h
      | false => rw [h1] at h; exact ihr _ h

section
variable {P : Program} {T : Tab} {call : Caller} {ops : Array Oper} {anc wr : TT Nat} {ρ0 ρF : Env} {HF : Heap} {tr0 : List Ent} {m0 : Mp} {H0 : Heap} {w0 : World}

theorem calm_split : ∀ l : List Ent, ∃ g p2, l = g ++ p2 ∧ (∀ y ∈ g, effA y.o = false) ∧ ∀ e t, p2 = e :: t → effA e.o = true
  | [] => ⟨[], [], rfl, fun _ h => by (cases h), fun _ _ h => by (cases h)⟩
  | x :: l => by
    cases hx : effA x.o with
    | true => exact ⟨[], x :: l, rfl, fun _ h => by (cases h), fun e t h => by cases h; exact hx⟩
    | false =>
      obtain ⟨g, p2, h1, h2, h3⟩ := calm_split l
      refine ⟨x :: g, p2, by rw [h1]; rfl, fun y hy => ?_, h3⟩
      rcases List.mem_cons.1 hy with rfl | hy
      · exact hx
      · exact h2 y hy

abbrev L (listed : Array Bool) (i : Nat) : Prop := listed.getD i false = true

theorem ok_split {l : List Oper} : ∀ (pre post : List Ent) (done ef : Nat) (H : Heap), Ok T call l anc wr ρ0 ρF HF (pre ++ post) done ef H →
    ∃ done' ef' H', Ok T call l anc wr ρ0 ρF HF post done' ef' H' ∧ (∀ j, tb done' j = true ↔ tb done j = true ∨ ∃ x ∈ pre, x.i = j) ∧ (∀ j, tb ef' j = true ↔ tb ef j = true ∨ ∃ x ∈ pre, effA x.o = true ∧ x.i = j)
  | [], post, done, ef, H, h => ⟨done, ef, H, h, fun j => by simp, fun j => by simp⟩
  | x :: pre, post, done, ef, H, h => by
    obtain ⟨_, _, _, ⟨H', _, h4⟩, _⟩ := (h : Ok T call l anc wr ρ0 ρF HF (x :: (pre ++ post)) done ef H)
    obtain ⟨d', e', H'', g1, g2, g3⟩ := ok_split pre post _ _ _ h4
    refine ⟨d', e', H'', g1, fun j => ?_, fun j => ?_⟩
    · rw [g2, tb_lor, tb_bit, Bool.or_eq_true, decide_eq_true_eq]
      constructor
      · rintro ((h | h) | ⟨y, hy, h⟩)
        · exact .inl h
        · exact .inr ⟨x, List.mem_cons_self, h⟩
        · exact .inr ⟨y, List.mem_cons_of_mem _ hy, h⟩
      · rintro (h | ⟨y, hy, h⟩)
        · exact .inl (.inl h)
        · rcases List.mem_cons.1 hy with rfl | hy
          · exact .inl (.inr h)
          · exact .inr ⟨y, hy, h⟩
    · rw [g3]
      cases he : effA x.o with
      | true =>
        show tb (Nat.lor ef (Nat.shiftLeft 1 x.i)) j = true ∨ _ ↔ _
        rw [tb_lor, tb_bit, Bool.or_eq_true, decide_eq_true_eq]
        constructor
        · rintro ((h | h) | ⟨y, hy, h⟩)
          · exact .inl h
          · exact .inr ⟨x, List.mem_cons_self, he, h⟩
          · exact .inr ⟨y, List.mem_cons_of_mem _ hy, h⟩
        · rintro (h | ⟨y, hy, h1, h⟩)
          · exact .inl (.inl h)
          · rcases List.mem_cons.1 hy with rfl | hy
            · exact .inl (.inr h)
            · exact .inr ⟨y, hy, h1, h⟩
      | false =>
        show tb ef j = true ∨ _ ↔ _
        constructor
        · rintro (h | ⟨y, hy, h⟩)
          · exact .inl h
          · exact .inr ⟨y, List.mem_cons_of_mem _ hy, h⟩
        · rintro (h | ⟨y, hy, h1, h⟩)
          · exact .inl h
          · rcases List.mem_cons.1 hy with rfl | hy
            · rw [he] at h1; cases h1
            · exact .inr ⟨y, hy, h1, h⟩

/-- What is known of an entry where it stands. -/
theorem ok_at (hok : Ok T call ops.toList anc wr ρ0 ρF HF tr0 0 0 H0) {pre post : List Ent} {x : Ent} (h : tr0 = pre ++ x :: post) :
    ops[x.i]? = some x.o ∧ ∃ done ef, (Static ops.toList anc wr x.i x.o done ef ∧ Slots wr ρ0 ρF x done) ∧ (∀ j, tb done j = true ↔ ∃ y ∈ pre, y.i = j) ∧ (∀ j, tb ef j = true ↔ ∃ y ∈ pre, effA y.o = true ∧ y.i = j) ∧
      (∃ H', Dyn T call ops.toList ρF x x.H H' ∧ Ok T call ops.toList anc wr ρ0 ρF HF post (Nat.lor done (Nat.shiftLeft 1 x.i)) (cond (effA x.o) (Nat.lor ef (Nat.shiftLeft 1 x.i)) ef) H') ∧
      (x.w = true → opC x.o.op = 0 → scanA T anc x.ρ HF x.i x.o.op x.v post = true) := by
  subst h
  obtain ⟨done, ef, H, g1, g2, g3⟩ := ok_split pre (x :: post) 0 0 H0 hok
  obtain ⟨h1, h2, h3, h4, h5⟩ := g1
  rw [Array.getElem?_toList] at h2
  subst h1
  refine ⟨h2, done, ef, h3, fun j => ?_, fun j => ?_, h4, h5⟩
  · rw [g2, tb_zero]; simp
  · rw [g3, tb_zero]; simp

theorem mem_split {α : Type} {x : α} {l : List α} (h : x ∈ l) : ∃ p q, l = p ++ x :: q := List.append_of_mem h

theorem anc_listed (hok : Ok T call ops.toList anc wr ρ0 ρF HF tr0 0 0 H0) {listed : Array Bool} (down : ∀ x ∈ tr0, L listed x.i → ∀ e ∈ x.o.after.toList, bindsA e = true → L listed e.on) :
    ∀ (n : Nat) (pre post : List Ent) (x : Ent), pre.length ≤ n → tr0 = pre ++ x :: post → (∀ e ∈ x.o.after.toList, bindsA e = true → L listed e.on) → ∀ j, tb (anc.get 0 x.i) j = true → L listed j := by
  intro n
  induction n with
  | zero =>
    intro pre post x hn h he j hj
    obtain ⟨_, done, ef, ⟨hs, _⟩, hd, _, _, _⟩ := ok_at hok h
    have := (hd j).1 (hs.sub j hj)
    obtain ⟨y, hy, _⟩ := this
    have : pre = [] := List.eq_nil_of_length_eq_zero (by omega)
    subst this; cases hy
  | succ n ih =>
    intro pre post x hn h he j hj
    obtain ⟨_, done, ef, ⟨hs, _⟩, hd, _, _, _⟩ := ok_at hok h
    rw [hs.mask] at hj
    obtain ⟨e, h1, h2, h3⟩ := maskOf_spec hj
    rcases h3 with h3 | h3
    · rw [← h3]; exact he e h1 h2
    · obtain ⟨y, hy, hyi⟩ := (hd e.on).1 (hs.edges e h1 h2)
      obtain ⟨p, q, rfl⟩ := mem_split hy
      have h' : tr0 = p ++ y :: (q ++ x :: post) := by rw [h]; simp
      refine ih p _ y ?_ h' (down y (by rw [h']; simp) (by rw [hyi]; exact he e h1 h2)) j (by rw [hyi]; exact h3)
      simp at hn; omega

structure Inv (T : Tab) (ops : Array Oper) (ρ0 ρF : Env) (HF : Heap) (tr0 : List Ent) (m0 : Mp) (H0 : Heap) (w0 : World) (listed : Array Bool) (a : Act) (w : World) (m : Mp) (pre post : List Ent) (ρL : Env) : Prop where
  split : tr0 = pre ++ post
  head : ∀ e t, post = e :: t → effA e.o = true
  size : listed.size = ops.size
  preL : ∀ x ∈ pre, effA x.o = true → L listed x.i
  postL : ∀ x ∈ post, ¬ L listed x.i
  down : ∀ x ∈ tr0, L listed x.i → ∀ e ∈ x.o.after.toList, bindsA e = true → L listed e.on
  step : Step m0 H0 w0 m (headH HF post) w
  ph : ∀ x ∈ pre, ¬ L listed x.i → x.w = true → opC x.o.op = 1 → Phantom T H0.next m (headH HF post) x
  dist : ∀ x ∈ pre, ∀ y ∈ pre, ¬ L listed x.i → ¬ L listed y.i → x.w = true → opC x.o.op = 1 → y.w = true → opC y.o.op = 1 → x.i ≠ y.i → x.H.next ≠ y.H.next
  env : EnvR m ρL a
  has : ∀ t, ρF.has t = ρL.has t
  vals : ∀ t, (∀ x ∈ tr0, x.o.dst = some t → L listed x.i) → ρL.get undefA t = ρF.get undefA t
  vals0 : ∀ t, (∀ x ∈ tr0, x.o.dst = some t → ¬ L listed x.i) → ρL.get undefA t = ρ0.get undefA t

theorem L_set {listed : Array Bool} {i j : Nat} : L (listed.setIfInBounds i true) j ↔ (L listed j ∨ (j = i ∧ i < listed.size)) := by
  unfold L
  simp only [Array.getD_eq_getD_getElem?, Array.getElem?_setIfInBounds]
  by_cases e : i = j
  · subst e
    by_cases h : i < listed.size
    · simp [h]
    · simp [h]
  · rw [if_neg e]; simp [Ne.symm e]

variable (hok : Ok T call ops.toList anc wr ρ0 ρF HF tr0 0 0 H0)

theorem same_op (hok : Ok T call ops.toList anc wr ρ0 ρF HF tr0 0 0 H0) {x y : Ent} (hx : x ∈ tr0) (hy : y ∈ tr0) (h : x.i = y.i) : x.o = y.o := by
  obtain ⟨p, q, e⟩ := mem_split hx
  obtain ⟨p', q', e'⟩ := mem_split hy
  have h1 := (ok_at hok e).1
  have h2 := (ok_at hok e').1
  rw [h, h2] at h1
  exact (Option.some.inj h1).symm

/-- The parts of it that a mark changes in one way. -/
theorem mark_vals (hok : Ok T call ops.toList anc wr ρ0 ρF HF tr0 0 0 H0) {listed : Array Bool} {a : Act} {w : World} {m : Mp} {pre post : List Ent} {ρL : Env} (h : Inv T ops ρ0 ρF HF tr0 m0 H0 w0 listed a w m pre post ρL) {x : Ent} (hx : x ∈ tr0)
    (hval : ∀ d, x.o.dst = some d → ρF.has d = true → ρF.get undefA d = x.v) :
    ∀ t, (∀ y ∈ tr0, y.o.dst = some t → L (listed.setIfInBounds x.i true) y.i) → (putA ρL x.o.dst x.v).get undefA t = ρF.get undefA t := by
  intro t ht
  rw [get_putA]
  by_cases hd : x.o.dst = some t
  · by_cases hh : ρL.has t = true
    · rw [if_pos ⟨hd, hh⟩]
      exact (hval t hd (by rw [h.has]; exact hh)).symm
    · rw [if_neg (fun q => hh q.2)]
      have h0 : ρL.has t = false := by simpa using hh
      rw [get_not_has _ _ _ h0, get_not_has _ _ _ (by rw [h.has]; exact h0)]
  · rw [if_neg (fun q => hd q.1)]
    refine h.vals t fun y hy hyd => ?_
    rcases L_set.1 (ht y hy hyd) with q | ⟨q, _⟩
    · exact q
    · rw [same_op hok hy hx q] at hyd; exact absurd hyd hd

theorem mark_vals0 {listed : Array Bool} {a : Act} {w : World} {m : Mp} {pre post : List Ent} {ρL : Env} (h : Inv T ops ρ0 ρF HF tr0 m0 H0 w0 listed a w m pre post ρL) {x : Ent} (hx : x ∈ tr0) (hlt : x.i < ops.size) :
    ∀ t, (∀ y ∈ tr0, y.o.dst = some t → ¬ L (listed.setIfInBounds x.i true) y.i) → (putA ρL x.o.dst x.v).get undefA t = ρ0.get undefA t := by
  intro t ht
  rw [get_putA, if_neg]
  · exact h.vals0 t fun y hy hyd q => ht y hy hyd (L_set.2 (.inl q))
  · rintro ⟨hd, _⟩
    exact ht x hx hd (L_set.2 (.inr ⟨rfl, by rw [h.size]; exact hlt⟩))

theorem mark_down (hok : Ok T call ops.toList anc wr ρ0 ρF HF tr0 0 0 H0) {listed : Array Bool} {a : Act} {w : World} {m : Mp} {pre post : List Ent} {ρL : Env} (h : Inv T ops ρ0 ρF HF tr0 m0 H0 w0 listed a w m pre post ρL) {x : Ent} (hx : x ∈ tr0)
    (hedge : ∀ e ∈ x.o.after.toList, bindsA e = true → L listed e.on) :
    ∀ y ∈ tr0, L (listed.setIfInBounds x.i true) y.i → ∀ e ∈ y.o.after.toList, bindsA e = true → L (listed.setIfInBounds x.i true) e.on := by
  intro y hy hl e he hb
  refine L_set.2 (.inl ?_)
  rcases L_set.1 hl with q | ⟨q, _⟩
  · exact h.down y hy q e he hb
  · rw [same_op hok hy hx q] at he; exact hedge e he hb

theorem Inv.mark (hok : Ok T call ops.toList anc wr ρ0 ρF HF tr0 0 0 H0) {listed : Array Bool} {a : Act} {w : World} {m : Mp} {pre post : List Ent} {ρL : Env} (h : Inv T ops ρ0 ρF HF tr0 m0 H0 w0 listed a w m pre post ρL) {x : Ent} (hx : x ∈ pre) (hlt : x.i < ops.size)
    (hedge : ∀ e ∈ x.o.after.toList, bindsA e = true → L listed e.on) (hval : ∀ d, x.o.dst = some d → ρF.has d = true → ρF.get undefA d = x.v)
    {m' : Mp} {w' : World} {v' : Value} (hst : Step m0 H0 w0 m' (headH HF post) w') (hle : m.le m') (hph : ∀ y ∈ pre, ¬ L (listed.setIfInBounds x.i true) y.i → y.w = true → opC y.o.op = 1 → Phantom T H0.next m' (headH HF post) y)
    (hv : VR m' x.v v') : Inv T ops ρ0 ρF HF tr0 m0 H0 w0 (listed.setIfInBounds x.i true) (a.put x.o.dst v') w' m' pre post (putA ρL x.o.dst x.v) := by
  have hx0 : x ∈ tr0 := by rw [h.split]; exact List.mem_append_left _ hx
  refine ⟨h.split, h.head, by rw [Array.size_setIfInBounds]; exact h.size, fun y hy he => L_set.2 (.inl (h.preL y hy he)), fun y hy hl => ?_, mark_down hok h hx0 hedge, hst, hph, ?_, (h.env.mono hle).put _ hv, fun t => by rw [has_putA]; exact h.has t, mark_vals hok h hx0 hval, mark_vals0 h hx0 hlt⟩
  · rcases L_set.1 hl with q | ⟨q, _⟩
    · exact h.postL y hy q
    · obtain ⟨p, t, e⟩ := mem_split hy
      have e' : tr0 = (pre ++ p) ++ y :: t := by rw [h.split, e]; simp
      obtain ⟨_, done, ef, ⟨hs, _⟩, hd, _⟩ := ok_at hok e'
      have := (hd y.i).2 ⟨x, List.mem_append_left _ hx, q.symm⟩
      rw [hs.new] at this; cases this
  · intro y hy z hz h1 h2 h3 h4 h5 h6 h7
    exact h.dist y hy z hz (fun q => h1 (L_set.2 (.inl q))) (fun q => h2 (L_set.2 (.inl q))) h3 h4 h5 h6 h7

theorem Inv.advance (hok : Ok T call ops.toList anc wr ρ0 ρF HF tr0 0 0 H0) {listed : Array Bool} {a : Act} {w : World} {m : Mp} {pre post' : List Ent} {ρL : Env} {x : Ent} (h : Inv T ops ρ0 ρF HF tr0 m0 H0 w0 listed a w m pre (x :: post') ρL)
    (hlt : x.i < ops.size) (hedge : ∀ e ∈ x.o.after.toList, bindsA e = true → L listed e.on) (hval : ∀ d, x.o.dst = some d → ρF.has d = true → ρF.get undefA d = x.v)
    {m' : Mp} {w' : World} {v' : Value} {H' : Heap} {done ef : Nat} (hok' : Ok T call ops.toList anc wr ρ0 ρF HF post' done ef H') (hst : Step m x.H w m' H' w') (hv : VR m' x.v v') :
    ∃ pre2 post2, Inv T ops ρ0 ρF HF tr0 m0 H0 w0 (listed.setIfInBounds x.i true) (a.put x.o.dst v') w' m' pre2 post2 (putA ρL x.o.dst x.v) := by
  have hx0 : x ∈ tr0 := by rw [h.split]; simp
  have hLx : L (listed.setIfInBounds x.i true) x.i := L_set.2 (.inr ⟨rfl, by rw [h.size]; exact hlt⟩)
  obtain ⟨g, post2, hpost, hg, hhead⟩ : ∃ g p2, post' = g ++ p2 ∧ (∀ y ∈ g, effA y.o = false) ∧ ∀ e t, p2 = e :: t → effA e.o = true := by
    exact calm_split post'
  subst hpost
  have hbase : Step m0 H0 w0 m' H' w' := h.step.trans hst
  obtain ⟨k1, k2, k3⟩ := ghosts (base := H0.next) g post2 done ef H' hok' hg hst.rel hst.wf hbase.next
  have hnotyet : ∀ y ∈ g ++ post2, ¬ L (listed.setIfInBounds x.i true) y.i := by
    intro y hy hl
    rcases L_set.1 hl with q | ⟨q, _⟩
    · exact h.postL y (List.mem_cons_of_mem _ hy) q
    · obtain ⟨p, t, e⟩ := mem_split hy
      have e' : tr0 = (pre ++ x :: p) ++ y :: t := by rw [h.split, e]; simp
      obtain ⟨_, done, ef, ⟨hs, _⟩, hd, _⟩ := ok_at hok e'
      have := (hd y.i).2 ⟨x, by simp, q.symm⟩
      rw [hs.new] at this; cases this
  have old : ∀ y ∈ pre ++ [x], ¬ L (listed.setIfInBounds x.i true) y.i → y ∈ pre ∧ ¬ L listed y.i := by
    intro y hy hl
    rcases List.mem_append.1 hy with hy | hy
    · exact ⟨hy, fun q => hl (L_set.2 (.inl q))⟩
    · rw [List.mem_singleton.1 hy] at hl; exact absurd hLx hl
  refine ⟨pre ++ [x] ++ g, post2, by rw [h.split]; simp, hhead, by rw [Array.size_setIfInBounds]; exact h.size, ?_, fun y hy => hnotyet y (List.mem_append_right _ hy), mark_down hok h hx0 hedge, hbase.trans k1, ?_, ?_, (h.env.mono hst.le).put _ hv,
    fun t => by rw [has_putA]; exact h.has t, mark_vals hok h hx0 hval, mark_vals0 h hx0 hlt⟩
  · intro y hy he
    rcases List.mem_append.1 hy with hy | hy
    · rcases List.mem_append.1 hy with hy | hy
      · exact L_set.2 (.inl (h.preL y hy he))
      · rw [List.mem_singleton.1 hy]; exact hLx
    · rw [hg y hy] at he; cases he
  · intro y hy hl hyw hyc
    rcases List.mem_append.1 hy with hy | hy
    · obtain ⟨q1, q2⟩ := old y hy hl
      exact ((h.ph y q1 q2 hyw hyc).step hst).step k1
    · exact (k2 y hy hyw hyc).1
  · intro y hy z hz h1 h2 h3 h4 h5 h6 h7
    have lt : ∀ y ∈ pre ++ [x], ¬ L (listed.setIfInBounds x.i true) y.i → y.w = true → opC y.o.op = 1 → y.H.next < H'.next := by
      intro y hy hl hyw hyc
      obtain ⟨q1, q2⟩ := old y hy hl
      exact Nat.lt_of_lt_of_le (h.ph y q1 q2 hyw hyc).lt hst.next
    rcases List.mem_append.1 hy with hy | hy
    · rcases List.mem_append.1 hz with hz | hz
      · obtain ⟨q1, q2⟩ := old y hy h1
        obtain ⟨q3, q4⟩ := old z hz h2
        exact h.dist y q1 z q3 q2 q4 h3 h4 h5 h6 h7
      · have e1 := lt y hy h1 h3 h4
        have e2 := (k2 z hz h5 h6).2
        omega
    · rcases List.mem_append.1 hz with hz | hz
      · have e1 := lt z hz h2 h5 h6
        have e2 := (k2 y hy h3 h4).2
        omega
      · exact k3 y hy z hz h3 h4 h5 h6 h7
end
end Go.Ai
