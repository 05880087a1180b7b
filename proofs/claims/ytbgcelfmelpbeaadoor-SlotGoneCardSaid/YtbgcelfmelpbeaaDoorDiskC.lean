/- The disk: did, Fuse, Write. -/
import Derived.Test.YtbgcelfmelpbeaaDoorDiskB
namespace Go.Proofs.YtbgcelfmelpbeaaDoor
open Go.RowKit
open Go.ChangeMaps (setBlock)
section methods
variable {K : Nat → Prop} {w w' : World} {s a m : Nat} {D : DM}
/-- the fuse, the acts, the power are other ones -/
theorem DiskRep.turn (h : DiskRep K w s a m D) (ho : Only (· = s) w w') {f' a' : Int} {d' : Bool}
    (hs : ∀ cap, w.heap[s]? = some (.cells #[.slice (some ⟨a, 0, none⟩) D.n cap, .map (some m), vI D.fuse, vI D.acts, .bool D.dead] 61 (0, 0)) →
      w'.heap[s]? = some (.cells #[.slice (some ⟨a, 0, none⟩) D.n cap, .map (some m), vI f', vI a', .bool d'] 61 (0, 0))) (h1 : -1 ≤ f') (h2 : f' ≤ 9223372036854775807) :
    DiskRep K w' s a m { D with fuse := f', acts := a', dead := d' } := by
  have hne := h.ne
  have hnb := h.no_bytes
  obtain ⟨n1, n2, f1, f2, cap, arr, l, g1, g2, g3, g4, g5, g6, g7⟩ := h
  have hS : ∀ k arr fz, k = s → w.heap[k]? ≠ some (.cells arr 5 fz) ∨ K k := fun k arr fz hk => .inl (hnb k arr fz (.inl hk))
  refine ⟨n1, n2, h1, h2, cap, arr, l, hs cap g1, ho.get g2 (fun e => hne.1 e.symm), g3, fun i hi => ?_, g5.only ho (fun e => hne.2.1 e.symm), fun p hp => ?_, g7⟩
  · obtain ⟨v, hv, hsv⟩ := g4 i hi
    exact ⟨v, hv, hsv.only ho hS⟩
  · obtain ⟨i, hi1, hi2, hi3, hi4⟩ := g6 p hp
    exact ⟨i, hi1, hi2, hi3, hi4.only ho hS⟩
/-- an act was done -/
def DM.did (D : DM) : DM := { D with acts := wrap64 (D.acts + 1), fuse := if 0 < D.fuse then D.fuse - 1 else D.fuse, dead := if 0 < D.fuse then decide (D.fuse - 1 = 0) else D.dead }
theorem disk_did (h : DiskRep K w s a m D) : Calls Tryd.prog 25 #[.pointer (some ⟨s, 0, none⟩)] w fun e w' => e = .returned (vI 0) ∧ DiskRep K w' s a m D.did ∧ Only (· = s) w w' := by
  obtain ⟨cap, c0, c1, c2, c3, c4, cf⟩ := h.cells
  have f3 := cf 3
  have f2 := cf 2
  have f4 := cf 4
  have b1 := h.f1
  have b2 := h.f2
  clear cf c0 c1
  by_cases hf : 0 < D.fuse
  · have eD : D.did = { D with fuse := D.fuse - 1, acts := wrap64 (D.acts + 1), dead := D.fuse - 1 == 0 } := by
      unfold DM.did; rw [if_pos hf, if_pos hf]; rfl
    rw [eD]
    clear eD
    go_enter Tryd.func25, Tryd.ntmps25
    go_wp2
    go_ret
    have ho : Only (· = s) w (((w.setCell ⟨s, 3, none⟩ (vI (wrap64 (D.acts + 1)))).setCell ⟨s, 2, none⟩ (vI (D.fuse - 1))).setCell ⟨s, 4, none⟩ (.bool (D.fuse - 1 == 0))) := by
      repeat (first | exact Only.refl _ _ | refine Only.setCell ?_ (by exact Or.inl rfl) _)
    exact ⟨rfl, h.turn ho (fun cap hc => get_setCell _ (get_setCell _ (get_setCell _ hc))) (by omega) (by omega), ho⟩
  · have eD : D.did = { D with fuse := D.fuse, acts := wrap64 (D.acts + 1), dead := D.dead } := by
      unfold DM.did; rw [if_neg hf, if_neg hf]
    rw [eD]
    clear eD
    go_enter Tryd.func25, Tryd.ntmps25
    go_wp2
    go_ret
    have ho : Only (· = s) w (w.setCell ⟨s, 3, none⟩ (vI (wrap64 (D.acts + 1)))) := by
      repeat (first | exact Only.refl _ _ | refine Only.setCell ?_ (by exact Or.inl rfl) _)
    exact ⟨rfl, h.turn ho (fun cap hc => get_setCell _ hc) (by omega) (by omega), ho⟩
theorem disk_Fuse_nil (w : World) (i : Int) : Calls Tryd.prog 15 #[.pointer none, vI i] w fun e w' => e = .returned (.tuple #[]) ∧ w = w' := by
  go_enter Tryd.func15, Tryd.ntmps15
  go_wp2_with (go_at_call 29; refine (able_nil _).mono ?_; rintro e w' ⟨rfl, rfl⟩)
  refine bodyPost_ret (results_none rfl _ _ _) rfl ?_
  exact ⟨rfl, rfl⟩
def DM.setFuse (D : DM) (n : Int) : DM := if D.dead then D else { D with fuse := if -1 < n then n else -1, dead := decide (n = 0) }
theorem disk_Fuse (h : DiskRep K w s a m D) (n : Int) (hn : n ≤ 9223372036854775807) : Calls Tryd.prog 15 #[.pointer (some ⟨s, 0, none⟩), vI n] w fun e w' => e = .returned (.tuple #[]) ∧ DiskRep K w' s a m (D.setFuse n) ∧ Only (· = s) w w' := by
  obtain ⟨cap, c0, c1, c2, c3, c4, cf⟩ := h.cells
  have f2 := cf 2
  have f4 := cf 4
  clear cf c0 c3
  have hab := able_yes _ s m D.dead c1 c4
  by_cases hd : D.dead = true
  · rw [show D.setFuse n = D from by unfold DM.setFuse; rw [if_pos hd]]
    rw [hd] at hab c4
    clear hd
    go_enter Tryd.func15, Tryd.ntmps15
    go_wp2_with (go_at_call 29; refine hab.mono ?_; rintro e w' ⟨rfl, rfl⟩)
    refine bodyPost_ret (results_none rfl _ _ _) rfl ?_
    exact ⟨rfl, h, Only.refl _ _⟩
  · have hd' : D.dead = false := by simpa using hd
    have eD : D.setFuse n = { D with fuse := if -1 < n then n else -1, acts := D.acts, dead := n == 0 } := by unfold DM.setFuse; rw [if_neg hd]; rfl
    rw [eD]
    rw [hd'] at hab c4
    clear eD hd hd'
    have H := h
    clear h
    rcases (show -1 < n ∨ n < -1 ∨ n = -1 by omega) with h1 | h1 | rfl
    all_goals
      go_enter Tryd.func15, Tryd.ntmps15
      go_wp2_with (go_at_call 29; refine hab.mono ?_; rintro e w' ⟨rfl, rfl⟩)
      go_end0
      refine ⟨rfl, ?_, ?_⟩
      · exact H.turn (by repeat (first | exact Only.refl _ _ | refine Only.setCell ?_ (by exact Or.inl rfl) _)) (fun cap hc => get_setCell _ (get_setCell _ hc)) (by omega) (by omega)
      · repeat (first | exact Only.refl _ _ | refine Only.setCell ?_ (by exact Or.inl rfl) _)
end methods
end Go.Proofs.YtbgcelfmelpbeaaDoor
