/- Regions whose order is drawn: sound. -/
import Derived.Test.YtmbohkdfdolkkaaGreatDoorAiD5
namespace Go.Ai
open Go
section
variable {P : Program} {T : Tab} {call : Caller} {ops : Array Oper} {anc wr : TT Nat} {ρ0 ρF : Env} {HF : Heap} {tr0 : List Ent} {m0 : Mp} {H0 : Heap} {w0 : World}

theorem ready_mem {listed : Array Bool} {i : Nat} (h : i ∈ Region.ready .any ops listed) :
    i < ops.size ∧ listed.getD i true = false ∧ ∃ o, ops[i]? = some o ∧ ∀ e ∈ o.after.toList, bindsA e = true → L listed e.on := by
  unfold Region.ready at h
  rw [List.mem_filter, List.mem_range, Bool.and_eq_true] at h
  obtain ⟨h1, h2, h3⟩ := h
  refine ⟨h1, by simpa using h2, ?_⟩
  have ho : ops[i]? = some ops[i] := Array.getElem?_eq_getElem h1
  rw [ho] at h3
  refine ⟨_, ho, fun e he hb => ?_⟩
  simp only [Option.map_some, Option.getD_some, Array.all_eq_true_iff_forall_mem] at h3
  have := h3 e (Array.mem_toList_iff.1 he)
  rw [← bindsA_eq, hb, Bool.not_true, Bool.false_or] at this
  exact this
theorem mem_ready {listed : Array Bool} {i : Nat} {o : Oper} (h1 : i < ops.size) (h2 : listed.getD i true = false) (ho : ops[i]? = some o) (h3 : ∀ e ∈ o.after.toList, bindsA e = true → L listed e.on) : i ∈ Region.ready .any ops listed := by
  unfold Region.ready
  rw [List.mem_filter, List.mem_range, Bool.and_eq_true]
  refine ⟨h1, by simpa using h2, ?_⟩
  rw [ho]
  simp only [Option.map_some, Option.getD_some, Array.all_eq_true_iff_forall_mem]
  intro e he
  rw [← bindsA_eq]
  cases hb : bindsA e with
  | false => rfl
  | true => rw [Bool.not_true, Bool.false_or]; exact h3 e (Array.mem_toList_iff.2 he) hb

theorem getD_false {listed : Array Bool} {i : Nat} (hs : i < listed.size) : (listed.getD i true = false ↔ ¬ L listed i) := by
  unfold L
  simp only [Array.getD_eq_getD_getElem?, Array.getElem?_eq_getElem hs, Option.getD_some]
  simp

theorem complete (hok : Ok T call ops.toList anc wr ρ0 ρF HF tr0 0 0 H0) {i : Nat} (hi : i < ops.size) : ∃ x ∈ tr0, x.i = i := by
  have hok' : Ok T call ops.toList anc wr ρ0 ρF HF (tr0 ++ []) 0 0 H0 := by simpa using hok
  obtain ⟨done, ef, H, g1, g2, _⟩ := ok_split tr0 [] 0 0 H0 hok'
  have := tb_full g1.2 (i := i) (by simpa using hi)
  rcases (g2 i).1 this with h | h
  · rw [tb_zero] at h; cases h
  · exact h

theorem sameA_spec {ρ : Env} {op : Op} {v : AV} {K : Heap} (hc : opC op = 0) (h : sameA T ρ op v K = true) : opB op T ρ K = .val v K := by
  unfold sameA at h
  rcases opB_gives (T := T) hc ρ K with g | ⟨u, g⟩
  · rw [g] at h; cases h
  · rw [g] at h ⊢
    have := aveq_eq 8 v u h
    rw [this]

theorem scan_at {ρ : Env} {i : Nat} {op : Op} {v : AV} : ∀ (mid post : List Ent), scanA T anc ρ HF i op v (mid ++ post) = true → (∀ e ∈ mid, effA e.o = true → tb (anc.get 0 e.i) i = false) → (∀ e t, post = e :: t → effA e.o = true) →
    sameA T ρ op v (headH HF post) = true
  | [], [], h, _, _ => h
  | [], e :: t, h, _, hh => by
    have h : cond (effA e.o) (cond (sameA T ρ op v e.H) (cond (tb (anc.get 0 e.i) i) true (scanA T anc ρ HF i op v t)) false) (scanA T anc ρ HF i op v t) = true := h
    rw [hh e t rfl] at h
    exact (cond_cases (d := false) h (by simp)).1
  | e :: mid, post, h, hm, hh => by
    have h : cond (effA e.o) (cond (sameA T ρ op v e.H) (cond (tb (anc.get 0 e.i) i) true (scanA T anc ρ HF i op v (mid ++ post))) false) (scanA T anc ρ HF i op v (mid ++ post)) = true := h
    refine scan_at mid post ?_ (fun e he => hm e (List.mem_cons_of_mem _ he)) hh
    cases hef : effA e.o with
    | false => rw [hef] at h; exact h
    | true =>
      rw [hef] at h
      obtain ⟨_, h⟩ := cond_cases (d := false) h (by simp)
      rw [hm e List.mem_cons_self hef] at h; exact h

theorem inv_step (hT : Fits T P) (hc : CallerOk P call) (hok : Ok T call ops.toList anc wr ρ0 ρF HF tr0 0 0 H0) {Q : Exit → Act → World → Prop} {listed : Array Bool} {a : Act} {w : World} {m : Mp} {pre post : List Ent} {ρL : Env}
    (h : Inv T ops ρ0 ρF HF tr0 m0 H0 w0 listed a w m pre post ρL) {i : Nat} (hi : i ∈ Region.ready .any ops listed) {K : Act → World → Prop}
    (hK : ∀ a' w' m' pre' post' ρL', Inv T ops ρ0 ρF HF tr0 m0 H0 w0 (listed.setIfInBounds i true) a' w' m' pre' post' ρL' → K a' w') : wpOp P ops Q i K a w := by
  obtain ⟨hlt, hun, o, ho, hedge⟩ := ready_mem hi
  obtain ⟨x, hx, hxi⟩ := complete hok hlt
  subst hxi
  rw [getD_false (by rw [h.size]; exact hlt)] at hun
  have hxo : ops[x.i]? = some x.o := by obtain ⟨p, q, e⟩ := mem_split hx; exact (ok_at hok e).1
  rw [hxo] at ho
  cases ho
  have hanc : ∀ j, tb (anc.get 0 x.i) j = true → L listed j := by
    obtain ⟨p, q, e⟩ := mem_split hx
    exact anc_listed hok h.down p.length p q x (Nat.le_refl _) e hedge
  have hlook : ∀ t ∈ looks ops.toList x.o, ρL.get undefA t = x.ρ.get undefA t := by
    intro t ht
    obtain ⟨p, q, e⟩ := mem_split hx
    obtain ⟨_, done, ef, ⟨hs, hsl⟩, hd, _⟩ := ok_at hok e
    have wrOf : ∀ y ∈ tr0, y.o.dst = some t → wr.get 0 t = y.i + 1 := by
      intro y hy hyd
      obtain ⟨p', q', e'⟩ := mem_split hy
      obtain ⟨_, done', ef', ⟨hs', _⟩, _⟩ := ok_at hok e'
      exact hs'.dst t hyd
    rcases hs.looks t ht with g | g | g
    · rw [h.vals0 t fun y hy hyd => by have := wrOf y hy hyd; omega, hsl.ini t (.inl g)]
    · rw [h.vals t fun y hy hyd => by have := wrOf y hy hyd; rw [this] at g; exact hanc y.i g]
      exact hsl.fin t (hs.sub _ g)
    · rw [h.vals0 t fun y hy hyd q => ?_, hsl.ini t (.inr ?_)]
      · cases hb : tb done (Nat.pred (wr.get 0 t)) with
        | false => rfl
        | true =>
          exfalso
          obtain ⟨y, hy, hyi⟩ := (hd _).1 hb
          obtain ⟨p1, p2, hp⟩ := mem_split hy
          have e1 : tr0 = p1 ++ y :: (p2 ++ x :: q) := by rw [e, hp]; simp
          obtain ⟨_, done', ef', ⟨hs', _⟩, hd', _⟩ := ok_at hok e1
          rw [← hyi] at g
          obtain ⟨z, hz, hzi⟩ := (hd' _).1 (hs'.sub _ g)
          have := (hd x.i).2 ⟨z, by rw [hp]; simp [hz], hzi⟩
          rw [hs.new] at this; cases this
      · have hw := wrOf y hy hyd
        rw [hw] at g
        have g : tb (anc.get 0 y.i) x.i = true := g
        obtain ⟨p1, p2, hp⟩ := mem_split hy
        exact hun (anc_listed hok h.down p1.length p1 p2 y (Nat.le_refl _) hp (h.down y hy q) x.i g)
  have hopB : ∀ H, opB x.o.op T ρL H = opB x.o.op T x.ρ H := fun H => opB_looks (T := T) x.o H hlook
  have hwant : ∀ {H' : Heap}, Dyn T call ops.toList ρF x x.H H' → Region.wanted x.o (yielded ops a.tmps) = x.w := by
    intro H' hd
    have e : wantedA (0 : Nat) 1 2 x.o.guard ops.toList ρL = cond x.w 1 2 := by
      rw [wantedA_congr (l := ops.toList) (0 : Nat) 1 2 x.o hlook]; exact hd.wants Nat 0 1 2
    rcases wantedA_sound (d := (0 : Nat)) h.env e (by cases x.w <;> decide) with ⟨g1, g2⟩ | ⟨g1, g2⟩
    · cases hw : x.w with
      | true => exact g1
      | false => rw [hw] at g2; cases g2
    · cases hw : x.w with
      | true => rw [hw] at g2; cases g2
      | false => exact g1
  unfold wpOp
  rw [hxo]
  simp only []
  have hx' := hx
  rw [h.split] at hx'
  rcases List.mem_append.1 hx' with hpre | hpost
  · -- before the cut
    obtain ⟨p1, mid, hp⟩ := mem_split hpre
    have e : tr0 = p1 ++ x :: (mid ++ post) := by rw [h.split, hp]; simp
    obtain ⟨_, done, ef, ⟨hs, _⟩, hd, hef, ⟨H', hdyn, hokr⟩, hscan⟩ := ok_at hok e
    have heff : effA x.o = false := by
      cases hq : effA x.o with
      | false => rfl
      | true => exact absurd (h.preL x hpre hq) hun
    have keepPh : ∀ {m' : Mp} {w' : World}, Step m (headH HF post) w m' (headH HF post) w' → ∀ y ∈ pre, ¬ L (listed.setIfInBounds x.i true) y.i → y.w = true → opC y.o.op = 1 → Phantom T H0.next m' (headH HF post) y :=
      fun hst y hy hl hyw hyc => (h.ph y hy (fun q => hl (L_set.2 (.inl q))) hyw hyc).step hst
    cases hw : x.w with
    | false =>
      rw [hwant hdyn, hw]
      simp only [Bool.false_eq_true, if_false]
      rcases hdyn.does with ⟨_, _, hv⟩ | ⟨hw', _⟩
      · refine hK _ _ m pre post _ (h.mark hok hpre hlt hedge hdyn.val (v' := undef) h.step m.le_refl (keepPh (.refl h.step.rel h.step.wf)) ?_)
        rw [hv]; exact undef_VR
      · rw [hw] at hw'; cases hw'
    | true =>
      rw [hwant hdyn, hw]
      simp only [if_true]
      refine .inl ?_
      unfold Oper.wp
      rcases opC_any x.o.op with hcl | hcl | hcl
      · -- it gives
        have hsame := scan_at mid post (hscan hw hcl) (fun y hy hye => by
          cases ht : tb (anc.get 0 y.i) x.i with
          | false => rfl
          | true =>
            exfalso
            have hy0 : y ∈ pre := by rw [hp]; simp [hy]
            have hyt : y ∈ tr0 := by rw [h.split]; exact List.mem_append_left _ hy0
            have hly := h.preL y hy0 hye
            obtain ⟨p, q, e'⟩ := mem_split hyt
            exact hun (anc_listed hok h.down p.length p q y (Nat.le_refl _) e' (h.down y hyt hly) x.i ht)) h.head
        have hval := sameA_spec hcl hsame
        have hs := opB_sound (P := P) hT h.step.rel h.step.wf (fun y => h.env.ev y) x.o
        rw [hopB, hval] at hs
        obtain ⟨v', w', m', g1, g2, g3⟩ := hs
        rw [g1, Oper.upon_value]
        exact hK _ _ m' pre post _ (h.mark hok hpre hlt hedge hdyn.val (h.step.trans g3) g3.le (keepPh g3) g2)
      · -- it makes an object
        have ph := h.ph x hpre hun hw hcl
        obtain ⟨K', k1, k2⟩ := ph.made
        rw [← hopB] at k1
        obtain ⟨v', w', N, B, g1, g2, g3, g4⟩ := opB_makes (P := P) (m := m) (w := w) hT hcl (fun y => h.env.ev y) k1 x.o rfl
        rw [g1, Oper.upon_value]
        have hfit : Fits1 m N B ((headH HF post).obj x.H.next) := by
          rw [← k2]
          rcases g4 with ⟨X, _, rfl, hf⟩ | ⟨cs, rfl, hf⟩
          · rw [obj_new, if_pos rfl]; exact hf
          · rw [obj_newRow, if_pos rfl]; exact hf
        refine hK _ _ _ pre post _ (h.mark hok hpre hlt hedge hdyn.val (h.step.thenReal ph.low ph.lt ph.out g2 hfit ph.cls) (Mp.le_add _ ph.out) (fun y hy hl hyw hyc => ?_) g3)
        have hyx : y.i ≠ x.i := fun q => hl (L_set.2 (.inr ⟨q, by rw [h.size]; exact hlt⟩))
        have hyl : ¬ L listed y.i := fun q => hl (L_set.2 (.inl q))
        exact (h.ph y hy hyl hyw hyc).real (h.dist y hy x hpre hyl hun hyw hyc hw hcl hyx) fun cs c s hc => (ph.cls cs c s hc).1
      · rw [effA_iff.2 hcl] at heff; cases heff
  · -- at the cut
    obtain ⟨post', hpost'⟩ : ∃ post', post = x :: post' := by
      cases post with
      | nil => cases hpost
      | cons y post' =>
        rcases List.mem_cons.1 hpost with rfl | hin
        · exact ⟨post', rfl⟩
        · exfalso
          obtain ⟨p, q, e⟩ := mem_split hin
          have e' : tr0 = (pre ++ y :: p) ++ x :: q := by rw [h.split, e]; simp
          obtain ⟨_, done, ef, ⟨hs, _⟩, hd, hef, _⟩ := ok_at hok e'
          have := (hef y.i).2 ⟨y, by simp, h.head y post' rfl, rfl⟩
          exact h.postL y List.mem_cons_self (hanc y.i (hs.efs y.i this))
    subst hpost'
    have e : tr0 = pre ++ x :: post' := h.split
    obtain ⟨_, done, ef, ⟨hs, _⟩, hd, hef, ⟨H', hdyn, hokr⟩, _⟩ := ok_at hok e
    have hrel : Rel m x.H w := h.step.rel
    have hwf : HW x.H := h.step.wf
    cases hw : x.w with
    | false =>
      rw [hwant hdyn, hw]
      simp only [Bool.false_eq_true, if_false]
      rcases hdyn.does with ⟨_, hH, hv⟩ | ⟨hw', _⟩
      · subst hH
        obtain ⟨pre2, post2, hinv⟩ := h.advance hok hlt hedge hdyn.val hokr (v' := undef) (.refl hrel hwf) (by rw [hv]; exact undef_VR)
        exact hK _ _ m pre2 post2 _ hinv
      · rw [hw] at hw'; cases hw'
    | true =>
      rw [hwant hdyn, hw]
      simp only [if_true]
      refine .inl ?_
      unfold Oper.wp
      have hs := opB_sound (P := P) hT hrel hwf (fun y => h.env.ev y) x.o
      rw [hopB] at hs
      rcases hdyn.does with ⟨hw', _⟩ | ⟨_, hdo⟩
      · rw [hw] at hw'; cases hw'
      · rcases hdo with hdo | ⟨hdo, hv⟩ | ⟨f, args, K', hdo, hcall⟩
        · rw [hdo] at hs
          obtain ⟨v', w', m', g1, g2, g3⟩ := hs
          rw [g1, Oper.upon_value]
          obtain ⟨pre2, post2, hinv⟩ := h.advance hok hlt hedge hdyn.val hokr g3 g2
          exact hK _ _ m' pre2 post2 _ hinv
        · rw [hdo] at hs
          obtain ⟨w', m', g1, g3⟩ := hs
          rw [g1, Oper.upon_skip]
          obtain ⟨pre2, post2, hinv⟩ := h.advance hok hlt hedge hdyn.val hokr (v' := undef) g3 (by rw [hv]; exact undef_VR)
          exact hK _ _ m' pre2 post2 _ hinv
        · rw [hdo] at hs
          obtain ⟨hKH, _, args', g1, g2⟩ := hs
          subst hKH
          rw [g1, Oper.upon_enter]
          refine (hc f args x.H x.v H' hcall m w args' hrel hwf g2).mono ?_
          intro en w' hp
          rcases hp with hp | ⟨v', m', rfl, k1, k2⟩
          · exact hp.elim
          · obtain ⟨pre2, post2, hinv⟩ := h.advance hok hlt hedge hdyn.val hokr k2 k1
            exact hK _ _ m' pre2 post2 _ hinv

theorem first_not {p : Ent → Prop} [DecidablePred p] : ∀ {l : List Ent} {x : Ent}, x ∈ l → ¬ p x → ∃ a y b, l = a ++ y :: b ∧ (∀ z ∈ a, p z) ∧ ¬ p y
  | [], _, h, _ => by cases h
  | z :: l, x, h, hn => by
    by_cases hz : p z
    · rcases List.mem_cons.1 h with rfl | h
      · exact absurd hz hn
      · obtain ⟨a, y, b, h1, h2, h3⟩ := first_not h hn
        refine ⟨z :: a, y, b, by rw [h1]; rfl, fun q hq => ?_, h3⟩
        rcases List.mem_cons.1 hq with rfl | hq
        · exact hz
        · exact h2 q hq
    · exact ⟨[], z, l, rfl, fun _ h => by (cases h), hz⟩

theorem inv_end (hok : Ok T call ops.toList anc wr ρ0 ρF HF tr0 0 0 H0) {listed : Array Bool} {a : Act} {w : World} {m : Mp} {pre post : List Ent} {ρL : Env} (h : Inv T ops ρ0 ρF HF tr0 m0 H0 w0 listed a w m pre post ρL)
    (hr : Region.ready .any ops listed = []) : Ends m0 H0 w0 (.normal ρF HF) .normal a w := by
  have hall : ∀ x ∈ tr0, L listed x.i := by
    intro x hx
    by_cases hl : L listed x.i
    · exact hl
    · exfalso
      obtain ⟨p, y, q, e, hp, hy⟩ := first_not (p := fun x => L listed x.i) hx hl
      obtain ⟨ho, done, ef, ⟨hs, _⟩, hd, _⟩ := ok_at hok e
      have hlt : y.i < ops.size := (Array.getElem?_eq_some_iff.1 ho).1
      have : y.i ∈ Region.ready .any ops listed := mem_ready hlt ((getD_false (by rw [h.size]; exact hlt)).2 hy) ho fun ed he hb => by
        obtain ⟨z, hz, hzi⟩ := (hd ed.on).1 (hs.edges ed he hb)
        rw [← hzi]; exact hp z hz
      rw [hr] at this; cases this
  have hpost : post = [] := by
    cases post with
    | nil => rfl
    | cons y t => exact absurd (hall y (by rw [h.split]; simp)) (h.postL y List.mem_cons_self)
  subst hpost
  refine .inr ⟨rfl, m, ⟨fun t => ?_, fun t => by rw [h.has]; exact h.env.has t, h.env.defers⟩, h.step⟩
  rw [← h.vals t fun x hx _ => hall x hx]
  exact h.env.get t

theorem any_sound (hT : Fits T P) (hc : CallerOk P call) (hok : Ok T call ops.toList anc wr ρ0 ρF HF tr0 0 0 H0) :
    ∀ (fuel : Nat) (U : List Nat) (listed : Array Bool) (a : Act) (w : World) (m : Mp) (pre post : List Ent) (ρL : Env), Inv T ops ρ0 ρF HF tr0 m0 H0 w0 listed a w m pre post ρL → U.Nodup → (∀ i, i < ops.size → (i ∈ U ↔ ¬ L listed i)) → U.length ≤ fuel →
      wpAny P .any ops (Ends m0 H0 w0 (.normal ρF HF)) fuel listed a w := by
  intro fuel
  induction fuel with
  | zero =>
    intro U listed a w m pre post ρL h hnd hU hlen
    have hemp : Region.ready .any ops listed = [] := by
      apply List.eq_nil_iff_forall_not_mem.2
      intro i hi
      obtain ⟨hlt, hun, _⟩ := ready_mem hi
      have := (hU i hlt).2 ((getD_false (by rw [h.size]; exact hlt)).1 hun)
      have hU0 : U = [] := List.eq_nil_of_length_eq_zero (by omega)
      rw [hU0] at this; cases this
    exact ⟨hemp, inv_end hok h hemp⟩
  | succ fuel ih =>
    intro U listed a w m pre post ρL h hnd hU hlen
    refine ⟨fun he => inv_end hok h he, fun i hi => ?_⟩
    refine inv_step hT hc hok h hi fun a' w' m' pre' post' ρL' h' => ?_
    obtain ⟨hlt, hun, _⟩ := ready_mem hi
    have hunL := (getD_false (by rw [h.size]; exact hlt)).1 hun
    have hmem := (hU i hlt).2 hunL
    refine ih (U.erase i) _ a' w' m' pre' post' ρL' h' (hnd.erase i) (fun j hj => ?_) (by rw [List.length_erase_of_mem hmem]; omega)
    rw [hnd.mem_erase_iff, hU j hj, L_set]
    constructor
    · rintro ⟨h1, h2⟩ (h3 | ⟨h3, _⟩)
      · exact h2 h3
      · exact h1 h3
    · intro h1
      exact ⟨fun q => h1 (.inr ⟨q, by rw [h.size]; rw [q] at hj; exact hj⟩), fun q => h1 (.inl q)⟩

theorem runA_untouched {l : List Oper} {t : Nat} : ∀ {ord : List Pl} {ρ : Env} {H : Heap} {tr : List Ent}, runA T call l ord ρ H = .ok tr ρF HF → (∀ x ∈ tr, x.o.dst ≠ some t) → ρF.get undefA t = ρ.get undefA t
  | [], ρ, H, tr, h, _ => by cases h; rfl
  | p :: ord, ρ, H, tr, h, hn => by
    obtain ⟨w, v, H', tt, rfl, h1, _, _⟩ := runA_cons h
    rw [runA_untouched h1 fun x hx => hn x (List.mem_cons_of_mem _ hx), get_putA, if_neg]
    rintro ⟨hd, _⟩
    exact hn _ List.mem_cons_self hd

theorem drawA_sound (hT : Fits T P) (hm : P.follows .mixedOrders = true) (call : Caller) (hc : CallerOk P call) : DrawOk P (drawA T call) := by
  intro id ops ρ H r he hne m w a hr hw hρ
  have he : cond (chkA ops.toList (ancAll ops.toList 0 .e) (wrAll ops.toList 0 .e) (orderA ops.toList) 0 0)
      (TrR.casesOn (motive := fun _ => ER) (runA T call ops.toList (orderA ops.toList) ρ H) .fail fun tr ρF HF => cond (stabA T (ancAll ops.toList 0 .e) HF tr) (.normal ρF HF) .fail) .fail = r := he
  obtain ⟨hchk, he⟩ := cond_cases he hne
  cases hrun : runA T call ops.toList (orderA ops.toList) ρ H with
  | fail => rw [hrun] at he; exact absurd he.symm hne
  | ok tr ρF HF =>
    rw [hrun] at he
    obtain ⟨hst, he⟩ := cond_cases (d := ER.fail) he hne
    subst he
    have hok : Ok T call ops.toList (ancAll ops.toList 0 .e) (wrAll ops.toList 0 .e) ρ ρF HF tr 0 0 H := run_ok hrun hchk (fun p hp => orderA_mem hp) hst (fun _ _ => rfl)
    refine wp_region_any hm ?_
    have hd := Step.drawn hr hw (w.drawn + 1)
    obtain ⟨g, post, hsplit, hg, hhead⟩ := calm_split tr
    have hok' := hok
    rw [hsplit] at hok'
    obtain ⟨k1, k2, k3⟩ := ghosts (base := H.next) g post 0 0 H hok' hg hd.rel hd.wf (Nat.le_refl _)
    have hL : ∀ i, ¬ L (Array.replicate ops.size false) i := by
      intro i
      unfold L
      simp only [Array.getD_eq_getD_getElem?, Array.getElem?_replicate]
      split <;> simp
    have hinv : Inv T ops ρ ρF HF tr m H w (Array.replicate ops.size false) a { w with drawn := w.drawn + 1 } m g post ρ := by
      refine ⟨hsplit, hhead, by simp, fun x hx he => by (rw [hg x hx] at he; cases he), fun x _ => hL x.i, fun x _ hl => absurd hl (hL x.i), hd.trans k1, fun x hx _ hxw hxc => (k2 x hx hxw hxc).1, fun x hx y hy _ _ h1 h2 h3 h4 h5 => k3 x hx y hy h1 h2 h3 h4 h5, hρ, (runA_keeps hrun hchk).1, fun t ht => ?_, fun _ _ => rfl⟩
      refine (runA_untouched hrun fun x hx hxd => ?_).symm
      exact hL x.i (ht x hx hxd)
    exact any_sound hT hc hok ops.size (List.range ops.size) _ a _ m g post ρ hinv List.nodup_range (fun i hi => by simp [hi, hL i]) (by simp)

/-- The machine, with draws, is sound. -/
theorem machine_sound (hT : Fits T P) (hm : P.follows .mixedOrders = true) {S : Sums} (hS : SumsOk P S) (rounds n : Nat) : CallerOk P (callA T S rounds (drawA T) n) :=
  callA_sound hT hS rounds (fun call hc => drawA_sound hT hm call hc) n
end
end Go.Ai
