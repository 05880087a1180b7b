/- The disk: Pending, by the shelf's contracts on slices.Sorted(maps.Keys(m)). -/
import Derived.Test.YtbgcelfmelpbeaaDoorDiskE
import Derived.Test.YtbgcelfmelpbeaaDoorLay
namespace Go.Proofs.YtbgcelfmelpbeaaDoor
open Go.RowKit Go.Maps Go.Sort Go.Shelf Go.WideElems
theorem sortsA (n : Nat) : AnyZI.SortsIn Tryd.prog Tryd.sortedA_ren Fence.wide n :=
  ⟨fun blk off cap ss W hH hblk hsz => callsIn_wide.2 (AnyM.slices_Sort_int Tryd.sortA blk off cap ss W hH hblk hsz),
   fun p cap W => callsIn_wide.2 (AnyM.slices_Sort_int_none Tryd.sortA p cap W)⟩
abbrev R0 : Value → Option (DataW Unit × List MemPlace) := fun _ => some (.nil, [])
/-- a map of ints as the shelf's contracts want it -/
theorem owns_of_mapI {w : World} {m : Nat} {l : List (Int × Value)} (h : MapI w m l) (hw : ∀ p ∈ l, (Lit.int .i64 p.1).wf = true) (hl : l.length ≤ maxLen) :
    ∃ D0 : DataW Unit, w.ownsMap Tryd.prog 3 R0 m l.length D0 ∧ (intKeys D0).Perm (l.map (·.1)) ∧ Maps.size D0 = l.length := by
  obtain ⟨es, clock, hb, hm, h1, h2, h3⟩ := h
  have hlen : es.size = l.length := by have := congrArg List.length hm; simpa using this
  have hkey : ∀ x ∈ es.toList, ∃ i : Int, x.key = vI i ∧ (Lit.int .i64 i).wf = true ∧ WideElems.rd Tryd.prog 3 R0 x = some (.int .i64 i, .nil) := by
    intro x hx
    have : (x.key, x.val) ∈ l.map (fun p => (vI p.1, p.2)) := by rw [← hm]; exact List.mem_map_of_mem (f := fun e : MapEntry => (e.key, e.val)) hx
    obtain ⟨p, hp, hpe⟩ := List.mem_map.1 this
    have k1 : vI p.1 = x.key := congrArg Prod.fst hpe
    have kw := hw p hp
    refine ⟨p.1, k1.symm, kw, ?_⟩
    unfold WideElems.rd
    rw [← k1, keyOf_int_mk Tryd.underlying3 kw]
    rfl
  refine ⟨.map ((es.toList.map (rg Tryd.prog 3 R0)).foldr DataW.insert []), ⟨es, clock, hb, ⟨by omega, ?_, fun x hx => ?_⟩, by omega, rfl⟩, ?_, ?_⟩
  · refine ⟨h2, h1, ?_⟩
    have : es.toList.map (·.key) = (l.map (·.1)).map vI := by
      have := congrArg (List.map Prod.fst) hm
      simpa [List.map_map, Function.comp_def] using this
    rw [this]
    exact List.Pairwise.map vI (fun a b h e => h (by injection e)) h3
  · obtain ⟨i, _, _, hr⟩ := hkey x hx
    exact ⟨_, hr⟩
  · have hp := WideShapes.sorted_perm (es.toList.map (rg Tryd.prog 3 R0))
    have e : l.map (·.1) = (es.toList.map (rg Tryd.prog 3 R0)).map (fun p => _root_.Go.intOf p.1) := by
      have k1 : l.map (·.1) = (l.map (fun p => (vI p.1, p.2))).map (fun q => RowKit.intOf q.1) := by
        rw [List.map_map]; rfl
      rw [k1, ← hm, List.map_map, List.map_map]
      refine List.map_congr_left (fun x hx => ?_)
      obtain ⟨i, hk, _, hr⟩ := hkey x hx
      simp only [Function.comp, rg, hr, hk]
      rfl
    rw [e]
    exact hp.map _
  · simp only [Maps.size, length_sorted, List.length_map, Array.length_toList]
    exact hlen
section methods
variable {K : Nat → Prop} {w w' : World} {s a m : Nat} {D : DM}
/-- the sectors that wait, in order -/
def DM.pending (D : DM) : List Int := ((List.range D.n).filter D.pend).map fun i : Nat => (i : Int)
theorem DM.pending_sorted (D : DM) : D.pending.Pairwise (· < ·) := by
  unfold DM.pending
  refine List.Pairwise.map _ (fun x y h => ?_) ((List.pairwise_lt_range).filter _)
  exact Int.ofNat_lt.2 h
theorem DM.mem_pending {D : DM} {x : Int} : x ∈ D.pending ↔ ∃ i : Nat, x = i ∧ i < D.n ∧ D.pend i = true := by
  unfold DM.pending
  simp only [List.mem_map, List.mem_filter, List.mem_range]
  constructor
  · rintro ⟨i, ⟨h1, h2⟩, rfl⟩; exact ⟨i, rfl, h1, h2⟩
  · rintro ⟨i, rfl, h1, h2⟩; exact ⟨i, ⟨h1, h2⟩, rfl⟩
theorem sorted_unique {ss l : List Int} (hp : ss.Perm l) (hl : l.Pairwise (· < ·)) : ss.mergeSort (fun x y => decide (x ≤ y)) = l := by
  have tr : ∀ a b c : Int, decide (a ≤ b) = true → decide (b ≤ c) = true → decide (a ≤ c) = true := fun a b c h1 h2 => by simp only [decide_eq_true_eq] at *; exact Int.le_trans h1 h2
  have tot : ∀ a b : Int, (decide (a ≤ b) || decide (b ≤ a)) = true := fun a b => by simp only [Bool.or_eq_true, decide_eq_true_eq]; exact Int.le_total a b
  refine List.Perm.eq_of_pairwise (le := fun a b => decide (a ≤ b) = true) (fun a b _ _ h1 h2 => ?_) (List.pairwise_mergeSort tr tot ss) (hl.imp (fun h => by simp; omega)) ((List.mergeSort_perm ss _).trans hp)
  simp only [decide_eq_true_eq] at h1 h2
  exact Int.le_antisymm h1 h2
theorem disk_Pending_nil (w : World) : Calls Tryd.prog 31 #[.pointer none] w fun e w' => e = .returned (.slice none 0 0) ∧ w = w' := by
  go_enter Tryd.func31, Tryd.ntmps31
  go_wp2_with (go_at_call 30; refine (is_nil _).mono ?_; rintro e w' ⟨rfl, rfl⟩)
  go_ret
  exact ⟨rfl, rfl⟩
set_option maxHeartbeats 1000000 in
theorem disk_Pending (h : DiskRep K w s a m D) : Calls Tryd.prog 31 #[.pointer (some ⟨s, 0, none⟩)] w fun e w' => ∃ v, e = .returned v ∧ w'.ownsRow w.heap.size 3 1 v D.pending.length (D.pending.map vI) ∧ Ext w w' := by
  obtain ⟨cap, c0, c1, -, -, -, -⟩ := h.cells
  obtain ⟨cap, arr, l, g1, g2, g3, g4, g5, g6, g7⟩ := h.mem
  have n2 := h.n2
  have hperm : (l.map (·.1)).Perm D.pending := by
    obtain ⟨_, _, _, _, _, _, hnd⟩ := g5
    refine (List.perm_ext_iff_of_nodup hnd (D.pending_sorted.imp (fun h => by omega))).2 (fun x => ?_)
    rw [DM.mem_pending, List.mem_map]
    constructor
    · rintro ⟨p, hp, rfl⟩
      obtain ⟨i, h1, h2, h3, _⟩ := g6 p hp
      exact ⟨i, h1, h2, h3⟩
    · rintro ⟨i, rfl, h1, h2⟩
      obtain ⟨v, hv⟩ := g7 i h1 h2
      exact ⟨_, hv, rfl⟩
  have hlen : l.length ≤ 1024 := by
    have h1 := hperm.length_eq
    have h2 : D.pending.length ≤ D.n := by
      unfold DM.pending
      rw [List.length_map]
      exact Nat.le_trans (List.length_filter_le _ _) (by simp)
    simp only [List.length_map] at h1
    omega
  obtain ⟨D0, hown, hk, hsz⟩ := owns_of_mapI g5 (fun p hp => by
    obtain ⟨i, h1, h2, _⟩ := g6 p hp
    rw [h1]
    exact WalkArith.wf_i64 (by omega)) (by simp [maxLen]; omega)
  have hbl := hown.lt
  have hseq : SeqGives Fence.wide 2 Tryd.prog 51 #[.pointer (some ⟨w.heap.size, 0, none⟩)] encZ (fun ss => ss.Perm (intKeys D0)) (Maps.size D0) (w.alloc (.cells #[.map (some m)] 59)) :=
    AnyZI.keys_gives (ρ := Tryd.keysA_ren) { Tryd.keysA with } Fence.wide _ trivial rfl (by omega) w.heap.size m l.length D0 _ (by simp) (by simp) (by
      obtain ⟨es, clock, hb, Ft, hs, hD⟩ := hown
      exact ⟨es, clock, (Below.heap_alloc _ _ m hbl).trans hb, Ft, hs, hD⟩)
  have cK : ∀ mb W, Calls Tryd.prog 39 #[.map mb] W fun e w' => e = .returned (.func (.func 51) #[] #[.pointer (some ⟨W.heap.size, 0, none⟩)]) ∧ w' = W.alloc (.cells #[.map mb] 59) := fun mb W =>
    (callsIn_wide (n := 5)).1 (AnyZI.keys_in Tryd.keysA Fence.wide 5 trivial rfl mb W)
  have cS := AnyZI.sorted_in Tryd.sortedA Fence.wide 5 trivial trivial trivial trivial rfl (by omega) (sortsA _) (enters_of Tryd.func50 (by kernel_rfl) rfl) 51 #[.pointer (some ⟨w.heap.size, 0, none⟩)] trivial (enters_of Tryd.func51 (by kernel_rfl) rfl) _ _ (by rw [hsz]; simp [maxLen]; omega) (by rw [hsz]; omega) _ hseq
  have cS2 := callsIn_wide.1 cS
  change Calls Tryd.prog 38 _ _ _ at cS2
  have HP := Lib.hid hperm
  have HK := Lib.hid hk
  clear cS hseq hown hk hsz hbl hperm g7 g6 g5 g4 g2 g1 g3 hlen
  go_enter Tryd.func31, Tryd.ntmps31
  go_wp2_with (first
    | (go_at_call 30; refine (is_yes _ s m c1).mono ?_; rintro e w' ⟨rfl, rfl⟩)
    | (go_at_call 39; refine (cK _ _).mono ?_; rintro e w' ⟨rfl, rfl⟩)
    | (go_at_call 38; refine cS2.mono ?_; rintro e w' ⟨v, ss, rfl, hS, hrow, hnil, hb⟩))
  go_ret
  have hss : ss.mergeSort (fun x y => decide (x ≤ y)) = D.pending := sorted_unique (hS.trans (HK.out.trans HP.out)) D.pending_sorted
  have hl2 : ss.length = D.pending.length := by rw [← hss]; simp
  rw [hss, hl2] at hrow
  exact ⟨v, rfl, ownsRow_base_a hrow (by simp), ((Only.refl _ w).alloc _).trans (Only.of_below hb _)⟩
end methods
end Go.Proofs.YtbgcelfmelpbeaaDoor
