/- The disk: Crash. -/
import Derived.Test.YtbgcelfmelpbeaaDoorDiskF
namespace Go.Proofs.YtbgcelfmelpbeaaDoor
open Go.RowKit
open Go.ChangeMaps (setBlock)
theorem get_filter_range (p : Nat → Bool) : ∀ (n k i : Nat), ((List.range n).filter p)[k]? = some i → p i = true ∧ i < n ∧ ((List.range i).filter p).length = k
  | 0, k, i, h => by simp at h
  | n + 1, k, i, h => by
    rw [List.range_succ, List.filter_append] at h
    by_cases hk : k < ((List.range n).filter p).length
    · rw [List.getElem?_append_left hk] at h
      obtain ⟨h1, h2, h3⟩ := get_filter_range p n k i h
      exact ⟨h1, by omega, h3⟩
    · rw [List.getElem?_append_right (by omega)] at h
      by_cases hp : p n = true
      · rw [List.filter_cons_of_pos hp] at h
        have hk0 : k - ((List.range n).filter p).length = 0 := by
          rcases Nat.eq_zero_or_pos (k - ((List.range n).filter p).length) with h0 | h0
          · exact h0
          · rw [List.getElem?_eq_none (by simp; omega)] at h; cases h
        rw [hk0] at h
        simp at h
        subst h
        exact ⟨hp, by omega, by omega⟩
      · rw [List.filter_cons_of_neg hp] at h
        simp at h
theorem rank_lt (p : Nat → Bool) {n i : Nat} (hi : i < n) (hp : p i = true) : ((List.range i).filter p).length < ((List.range n).filter p).length := by
  induction n with
  | zero => omega
  | succ n ih =>
    rw [List.range_succ, List.filter_append, List.length_append]
    rcases Nat.lt_or_ge i n with h | h
    · have := ih h; omega
    · obtain rfl : i = n := by omega
      rw [List.filter_cons_of_pos hp]; simp
section methods
variable {K : Nat → Prop} {w w' : World} {s a m : Nat} {D : DM}
/-- which place a sector has among those that wait -/
def DM.rank (D : DM) (i : Nat) : Nat := ((List.range i).filter D.pend).length
/-- k of the sectors that wait have been looked at -/
def DM.crashing (D : DM) (keep : List Bool) (k : Nat) : DM := { D with safe := fun i => if D.pend i = true ∧ D.rank i < k ∧ keep.getD (D.rank i) false = true then D.last i else D.safe i }
/-- the power goes, and comes -/
def DM.crash (D : DM) (keep : List Bool) : DM := { D with safe := fun i => if D.pend i = true ∧ keep.getD (D.rank i) false = true then D.last i else D.safe i, pend := fun _ => false, fuse := -1, dead := false }
theorem DM.pending_get {D : DM} {k : Nat} (hk : k < D.pending.length) : ∃ i : Nat, D.pending[k]? = some (i : Int) ∧ i < D.n ∧ D.pend i = true ∧ D.rank i = k := by
  have h1 : k < ((List.range D.n).filter D.pend).length := by simpa [DM.pending] using hk
  have h2 := List.getElem?_eq_getElem h1
  obtain ⟨g1, g2, g3⟩ := get_filter_range D.pend D.n k _ h2
  exact ⟨_, by unfold DM.pending; rw [List.getElem?_map, h2]; rfl, g2, g1, g3⟩
theorem DM.pending_len (D : DM) : D.pending.length ≤ D.n := by
  unfold DM.pending
  rw [List.length_map]
  exact Nat.le_trans (List.length_filter_le _ _) (by simp)
theorem DM.crashing_skip {D : DM} {keep : List Bool} {k : Nat} (h : keep.getD k false = false) (j : Nat) : (D.crashing keep (k + 1)).safe j = (D.crashing keep k).safe j := by
  simp only [DM.crashing]
  by_cases hjr : D.rank j = k
  · rw [hjr, h]; simp
  · by_cases h2 : D.rank j < k
    · simp [h2, Nat.lt_succ_of_lt h2]
    · rw [if_neg (by omega), if_neg (by omega)]
theorem DM.rank_inj {D : DM} {i j : Nat} (hi : D.pend i = true) (hj : D.pend j = true) (h : D.rank i = D.rank j) : i = j := by
  rcases Nat.lt_trichotomy i j with hlt | heq | hlt
  · have := rank_lt D.pend hlt hi; unfold DM.rank at h; omega
  · exact heq
  · have := rank_lt D.pend hlt hj; unfold DM.rank at h; omega
theorem DM.crashing_take {D : DM} {keep : List Bool} {i k : Nat} (hi : D.pend i = true) (hr : D.rank i = k) (h : keep.getD k false = true) (j : Nat) :
    (D.crashing keep (k + 1)).safe j = if j = i then D.last i else (D.crashing keep k).safe j := by
  simp only [DM.crashing]
  by_cases hji : j = i
  · subst hji
    rw [if_pos ⟨hi, by omega, by rw [hr]; exact h⟩, if_pos rfl]
  · rw [if_neg hji]
    by_cases hp : D.pend j = true
    · have hne : D.rank j ≠ k := fun e => hji (DM.rank_inj hp hi (by omega))
      by_cases h2 : D.rank j < k
      · simp [h2, Nat.lt_succ_of_lt h2]
      · rw [if_neg (by omega), if_neg (by omega)]
    · rw [if_neg (fun h => hp h.1), if_neg (fun h => hp h.1)]
theorem disk_Crash_nil (w : World) (v : Value) : Calls Tryd.prog 16 #[.pointer none, v] w fun e w' => e = .returned (.tuple #[]) ∧ w = w' := by
  go_enter Tryd.func16, Tryd.ntmps16
  go_wp2_with (go_at_call 30; refine (is_nil _).mono ?_; rintro e w' ⟨rfl, rfl⟩)
  refine bodyPost_ret (results_none rfl _ _ _) rfl ?_
  exact ⟨rfl, rfl⟩
set_option maxHeartbeats 1000000 in
theorem disk_Crash_of (h : DiskRep K w s a m D) {v : Value} {keep : List Bool} {B : Nat} (hv : ∀ w', Only (dblk s a m) w w' → Cs B w' v (keep.map Value.bool)) : Calls Tryd.prog 16 #[.pointer (some ⟨s, 0, none⟩), v] w fun e w' => e = .returned (.tuple #[]) ∧ DiskRep K w' s a m (D.crash keep) ∧ Only (dblk s a m) w w' := by
  obtain ⟨cap, c0, c1, -, -, -, -⟩ := h.cells
  have hpn := disk_Pending h
  obtain ⟨A, c, ev, -⟩ := hv w (Only.refl _ _)
  rw [List.length_map] at ev
  subst ev
  have hpl : D.pending.length ≤ 1024 := Nat.le_trans D.pending_len h.n2
  have HD := Lib.hid h
  have HV := Lib.hid hv
  clear h hv c0
  go_enter Tryd.func16, Tryd.ntmps16
  go_wp2_with (first
    | (go_at_call 30; refine (is_yes _ s m c1).mono ?_; rintro e w' ⟨rfl, rfl⟩)
    | (go_at_call 31; refine hpn.mono ?_; rintro e w1 ⟨v, rfl, hrow, hx⟩; (obtain ⟨Ap, cp, ep⟩ := (Sl.of_owns hrow).len); rw [List.length_map] at ep; subst ep; (have HX := Lib.hid hx); (have HR := Lib.hid hrow); clear hx hrow))
  go_loopw [12] (fun c wr => ∃ k : Nat, k ≤ D.pending.length ∧ c = vI k ∧ DiskRep K wr s a m (D.crashing keep k) ∧ Only (· = a) w1 wr) (fun c _ => D.pending.length - (RowKit.intOf c).toNat)
  case atStart =>
    refine ⟨0, Nat.zero_le _, rfl, (HD.out.ext HX.out).congr rfl rfl rfl rfl (fun i _ => ?_) (fun _ _ => rfl) (fun _ _ _ => rfl), Only.refl _ _⟩
    simp [DM.crashing]
  case round =>
    obtain ⟨k, hk, rfl, hrep, ho⟩ := hrel
    have hnbs := HD.out.no_bytes
    have hat := (HD.out.ext HX.out)
    obtain ⟨ca, arra, la, -, gA, -⟩ := hat.mem
    by_cases hlt : k < D.pending.length
    · obtain ⟨i, hi1, hi2, hi3, hi4⟩ := DM.pending_get hlt
      have hrow := (Sl.of_owns HR.out).only ho (by rintro q arr fz rfl hq; rw [gA] at hq; simp at hq)
      obtain ⟨A1, c1', e1, e2, e3, e4⟩ := hrow
      rw [List.length_map] at e1
      injection e1 with e1 _ e5
      subst e1 e5
      obtain ⟨pb, po, rfl, hpc⟩ := e3.cell (j := k) (by simpa using hlt)
      have hpk : (D.pending.map vI)[k]'(by simpa using hlt) = vI i := by
        rw [List.getElem_map]; rw [List.getElem?_eq_getElem hlt] at hi1; injection hi1 with hi1; rw [hi1]
      rw [hpk] at hpc
      have HREP := Lib.hid hrep
      have HO := Lib.hid ho
      have HI4 := Lib.hid hi4
      have HI3 := Lib.hid hi3
      by_cases hkl : k < keep.length
      · have hcs : Cs B wr (.slice A keep.length c) (keep.map Value.bool) := HV.out wr ((HX.out.only (dblk s a m)).andThen ho (by rintro q rfl; exact .inl (.inr (.inl rfl))))
        obtain ⟨A2, c2', f1, f3⟩ := hcs
        rw [List.length_map] at f1
        injection f1 with f1 _ f5
        subst f1 f5
        obtain ⟨kb, ko, rfl, -, hkc⟩ := f3 k (by simpa using hkl)
        rw [List.getElem_map] at hkc
        have hkd : (k : Int) < keep.length := by omega
        have hkb : decide ((k : Int) < keep.length) = true := by simpa using hkl
        have hgd : keep.getD k false = keep[k] := by simp [hkl]
        have HGD := Lib.hid hgd
        clear hrep ho hi4 hi3 hgd hat gA e4 hi1 hpk e2 e3 f3 hnbs
        cases hkk : keep[k]
        · rw [hkk] at hkc
          rw [hkk] at HGD
          clear hkk
          go_wp2
          go_roundw
          case rel =>
            refine ⟨k + 1, by omega, by go_num, HREP.out.congr rfl rfl rfl rfl (fun j hj => ?_) (fun _ _ => rfl) (fun _ _ _ => rfl), HO.out⟩
            exact DM.crashing_skip HGD.out j
          case measure => simp [RowKit.intOf]; omega
        · rw [hkk] at hkc
          rw [hkk] at HGD
          clear hkk
          obtain ⟨capr, d0, d1, -, -, -, -⟩ := HREP.out.cells
          obtain ⟨capq, arr, l, -, ga, -, gs, gm, gl, gp⟩ := HREP.out.mem
          obtain ⟨vv, hvv⟩ := gp i hi2 HI3.out
          obtain ⟨i', hii, -, -, hsv⟩ := gl _ hvv
          obtain rfl : i = i' := by simp at hii; omega
          have hlk := run_lookup_yes (P := Tryd.prog) Tryd.underlying59 Tryd.underlying3 (w := wr.drew) gm hvv false
          simp only [Bool.false_eq_true, if_false] at hlk
          obtain ⟨u, hu, -⟩ := gs i hi2
          have ca : wr.cell? ⟨a, i, none⟩ = some u := blk_cell ga hu
          have fa : wr.frozen? ⟨a, i, none⟩ = false := blk_free ga i
          have hsave := HREP.out.saved hi2 hsv
          obtain ⟨Av, cv, ev⟩ := hsv.1.len
          rw [List.length_map, hsv.2.1] at ev
          have HSV := Lib.hid hsave
          change wr.cell? ⟨s, 0, none⟩ = some (.slice (some ⟨a, 0, none⟩) D.n capr) at d0
          subst ev
          have hne := HREP.out.ne
          have k0 : (wr.setCell ⟨a, i, none⟩ (.slice Av 256 cv)).drew.cell? ⟨s, 0, none⟩ = some (.slice (some ⟨a, 0, none⟩) D.n capr) := ((Only.refl (· = a) wr).setCell (p := ⟨a, i, none⟩) (.inl rfl) _).cell d0 hne.1
          have k1 : (wr.setCell ⟨a, i, none⟩ (.slice Av 256 cv)).drew.cell? ⟨s, 1, none⟩ = some (.map (some m)) := ((Only.refl (· = a) wr).setCell (p := ⟨a, i, none⟩) (.inl rfl) _).cell d1 hne.1
          clear hsave hsv hvv gs gm gl gp hu ga hii
          go_wp2
          go_region_held3 (fun w' => w'.cell? ⟨s, 0, none⟩ = some (.slice (some ⟨a, 0, none⟩) D.n capr) ∧ w'.cell? ⟨s, 1, none⟩ = some (.map (some m))) (go_keep) (first | fail)
          clear hlk k0 k1
          go_wp2
          go_roundw
          case rel =>
            refine ⟨k + 1, by omega, by go_num, ?_, ?_⟩
            · have hx : Ext (wr.setCell ⟨a, i, none⟩ (.slice Av 256 cv)) (wr.setCell ⟨a, i, none⟩ (.slice Av 256 cv)).drew := (Only.refl _ _).drew
              exact (HSV.out.ext hx).congr rfl rfl rfl rfl (fun j hj => by rw [DM.crashing_take HI3.out HI4.out HGD.out j]; rfl) (fun _ _ => rfl) (fun _ _ _ => rfl)
            · exact (HO.out.setCell (p := ⟨a, i, none⟩) (.inl rfl) _).drew
          case measure => simp [RowKit.intOf]; omega
      · have hkd : ¬ (k : Int) < keep.length := by omega
        have hkb : decide ((k : Int) < keep.length) = false := by simpa using hkl
        have hgd : keep.getD k false = false := by simp [List.getElem?_eq_none (Nat.le_of_not_lt hkl)]
        have HGD := Lib.hid hgd
        clear hrep ho hi4 hi3 hgd hat gA e4 hi1 hpk e2 e3 hnbs
        go_wp2
        go_roundw
        case rel =>
          refine ⟨k + 1, by omega, by go_num, HREP.out.congr rfl rfl rfl rfl (fun j hj => ?_) (fun _ _ => rfl) (fun _ _ _ => rfl), HO.out⟩
          exact DM.crashing_skip HGD.out j
        case measure => simp [RowKit.intOf]; omega
    · obtain rfl : k = D.pending.length := by omega
      obtain ⟨hc, hclr, hmc⟩ := run_clear_map (P := Tryd.prog) (ty := 0) Tryd.underlying59 hrep.someMap.choose_spec
      obtain ⟨capr, d0, d1, d2, d3, d4, df⟩ := hrep.cells
      have HC := hrep.cleared hmc
      have hom : Only (· = m) wr (setBlock wr m (.map #[] hc)) := (Only.refl _ wr).setBlock (by exact Or.inl rfl) _
      obtain ⟨capr', d0', d1', d2', d3', d4', df'⟩ := HC.cells
      have f2 := df' 2
      have f4 := df' 4
      have HREP := Lib.hid hrep
      have HO := Lib.hid ho
      have HCC := Lib.hid HC
      have HOM := Lib.hid hom
      clear hrep ho hat gA HC hom hnbs d0 d2 d3 d4 df df' d0' d3' hmc hlt
      go_wp2_with (first
        | (at_builtin; go_loud (refine wpList_clear_run hclr rfl _ rfl rfl rfl ?_)))
      go_end0
      have ho2 : Only (· = s) (setBlock wr m (.map #[] hc)) (((setBlock wr m (.map #[] hc)).setCell ⟨s, 2, none⟩ (vI (-1))).setCell ⟨s, 4, none⟩ (.bool false)) := by
        repeat (first | exact Only.refl _ _ | refine Only.setCell ?_ (by exact Or.inl rfl) _)
      have ht := HCC.out.turn (f' := -1) (a' := D.acts) (d' := false) ho2 (fun cap hc => get_setCell _ (get_setCell _ hc)) (by omega) (by omega)
      refine ⟨rfl, ht.congr rfl rfl rfl rfl (fun j hj => ?_) (fun _ _ => rfl) (fun _ _ h => by cases h), ?_⟩
      · have hj' : j < D.n := hj
        simp only [DM.crash, DM.crashing]
        by_cases hp : D.pend j = true
        · have hr : D.rank j < D.pending.length := by
            have := rank_lt D.pend hj' hp
            simpa [DM.rank, DM.pending] using this
          simp [hp, hr]
        · simp [hp]
      · exact (((HX.out.only _).trans ((HO.out.mono (fun _ h => .inr (.inl h))))).trans (HOM.out.mono (fun _ h => .inr (.inr h)))).trans (ho2.mono (fun _ h => .inl h))
end methods
section
variable {K : Nat → Prop} {w : World} {s a m : Nat} {D : DM}
theorem disk_Crash (h : DiskRep K w s a m D) {v : Value} {keep : List Bool} (hv : Sl w 4 v (keep.map Value.bool)) : Calls Tryd.prog 16 #[.pointer (some ⟨s, 0, none⟩), v] w fun e w' => e = .returned (.tuple #[]) ∧ DiskRep K w' s a m (D.crash keep) ∧ Only (dblk s a m) w w' := by
  have hb := h.no_bools
  refine disk_Crash_of (B := w.heap.size) h (fun w' ho => ?_)
  obtain ⟨A, c, h1, h2, h3, h4⟩ := hv
  refine ⟨A, c, h1, fun j hj => ?_⟩
  rcases h3 with h0 | ⟨b, off, arr, fz, rfl, hb', hc⟩
  · rw [h0] at hj; simp at hj
  · exact ⟨b, off, rfl, lt_of_get hb', blk_cell (ho.get hb' (fun hs => hb _ _ _ hs hb')) (by rw [hc j hj, List.getElem?_eq_getElem hj])⟩
end
end Go.Proofs.YtbgcelfmelpbeaaDoor
