/- The two functions of Go's library that are told: strings.Clone, slices.Sorted(maps.Keys(m)). -/
import Derived.Test.YtmbohkdfdolkkaaGreatDoorG2Lib
import Derived.Test.YtmbohkdfdolkkaaGreatDoorAiS2
namespace Go.Proofs
open Go Go.Ai Go.RowKit Go.Maps Go.Sort Go.Shelf Go.WideElems

theorem Tryz.clone_ok : CloneOk Tryz.prog 249 := fun s w h => AnyPu.stringslite_Clone Tryz.clone249 s w h

theorem Tryz.sorts185 (m : Nat) : AnyZ.SortsIn Tryz.prog Tryz.sorted185_ren Fence.wide m :=
  ⟨fun blk off cap ss W hH hblk hsz => callsIn_wide.2 (AnyM.slices_Sort_string Tryz.sort262 blk off cap ss W hH hblk hsz),
   fun p cap W => callsIn_wide.2 (AnyM.slices_Sort_string_none Tryz.sort262 p cap W)⟩

theorem Tryz.sorted_ok : SortedOk Tryz.prog 185 263 := by
  intro w Bm b l clk ks hBm hcell hheap hst hkeys hlen hsz
  have hls : l.size = ks.length := by
    have := congrArg List.length hkeys
    simpa using this
  let R : Value → Option (DataW Unit × List MemPlace) := fun _ => some (.nil, [])
  have hrd : ∀ x ∈ l.toList, ∃ s ∈ ks, rd Tryz.prog 9 R x = some (.string s, .nil) ∧ x.key = encStr s := by
    intro x hx
    have hm : x.key ∈ ks.map encStr := hkeys ▸ List.mem_map.2 ⟨x, hx, rfl⟩
    obtain ⟨s, hs, he⟩ := List.mem_map.1 hm
    refine ⟨s, hs, ?_, he.symm⟩
    have hb : (⟨s.toArray⟩ : ByteArray).size ≤ maxLen := by
      have := hlen s hs
      have e : (⟨s.toArray⟩ : ByteArray).size = s.length := by simp [ByteArray.size]
      rw [e]
      exact Nat.le_trans this (by decide)
    have hk : keyOf Tryz.prog 9 x.key = some (.string s) := by
      rw [← he]
      have := Go.WideMaps.keyOf_string_mk (P := Tryz.prog) (k := 9) Tryz.underlying9 hb
      simpa [encStr] using this
    show (keyOf Tryz.prog 9 x.key).bind _ = _
    rw [hk]; rfl
  have hown : w.ownsMap Tryz.prog 9 R b l.size (.map ((l.toList.map (rg Tryz.prog 9 R)).foldr DataW.insert [])) :=
    ⟨l, clk, hheap, ⟨by rw [hls]; exact Nat.le_trans hsz (by decide), hst, fun x hx => let ⟨s, _, h, _⟩ := hrd x hx; ⟨_, h⟩⟩, Nat.le_refl _, rfl⟩
  have hrg : ∀ l' : List MapEntry, (∀ x ∈ l', x ∈ l.toList) → (l'.map (rg Tryz.prog 9 R)).map (fun p => encStr (strOf p.1)) = l'.map (·.key) := by
    intro l'
    induction l' with
    | nil => intro _; rfl
    | cons x l' ih =>
      intro hx
      obtain ⟨s, _, h, he⟩ := hrd x (hx x List.mem_cons_self)
      simp only [List.map_cons]
      rw [ih fun y hy => hx y (List.mem_cons_of_mem _ hy), rg_of h, he]
      rfl
  have hperm : (strKeys (.map ((l.toList.map (rg Tryz.prog 9 R)).foldr DataW.insert []))).Perm ks := by
    refine ((Go.WideShapes.sorted_perm _).map (fun p => strOf p.1)).trans ?_
    have h1 := hrg l.toList fun _ h => h
    rw [hkeys] at h1
    have h2 : ((l.toList.map (rg Tryz.prog 9 R)).map (fun p => strOf p.1)).map encStr = ks.map encStr := by rw [← h1, List.map_map]; rfl
    have h3 := (List.map_inj_right (f := encStr) (fun a b h => encStr_inj h)).1 h2
    rw [h3]
  have hsize : Maps.size (.map ((l.toList.map (rg Tryz.prog 9 R)).foldr DataW.insert [])) ≤ 1000000 := by
    have := hperm.length_eq
    rw [Maps.size_eq]
    have e : (strKeys (.map ((l.toList.map (rg Tryz.prog 9 R)).foldr DataW.insert []))).length = ((l.toList.map (rg Tryz.prog 9 R)).foldr DataW.insert []).length := by simp [strKeys]
    omega
  have hseq : SeqGives Fence.wide 2 Tryz.prog 263 #[.pointer (some ⟨Bm, 0, none⟩)] encStr (fun ss => ss.Perm (strKeys (.map ((l.toList.map (rg Tryz.prog 9 R)).foldr DataW.insert [])))) (Maps.size (.map ((l.toList.map (rg Tryz.prog 9 R)).foldr DataW.insert []))) w :=
    AnyZ.keys_gives (ρ := Tryz.keys186_ren) { Tryz.keys186 with } Fence.wide _ trivial rfl (by omega) Bm b _ _ _ hBm hcell hown
  have h := AnyZ.sorted_in Tryz.sorted185 Fence.wide 5 trivial trivial trivial trivial rfl (by omega) (Tryz.sorts185 _) (enters_of Tryz.func262 (by kernel_rfl) rfl) 263 #[.pointer (some ⟨Bm, 0, none⟩)] trivial (enters_of Tryz.func263 (by kernel_rfl) rfl) _ _ (Nat.le_trans hsize (by decide)) (by omega) _ hseq
  refine (callsIn_wide.1 h).mono ?_
  rintro e w' ⟨v, ss, rfl, hS, hrow, hnil, hb⟩
  exact ⟨v, ss, _, rfl, hS.trans hperm, hrow, hnil, hb⟩
end Go.Proofs
