/- The disk: Flush. -/
import Derived.Test.YtbgcelfmelpbeaaDoorDiskD
namespace Go.Proofs.YtbgcelfmelpbeaaDoor
open Go.RowKit
open Go.ChangeMaps (setBlock)
section methods
variable {K : Nat → Prop} {w w' : World} {s a m : Nat} {D : DM}
/-- a disk's picture speaks of its own sectors alone -/
theorem DiskRep.congr {D' : DM} (h : DiskRep K w s a m D) (hn : D'.n = D.n) (hf : D'.fuse = D.fuse) (ha : D'.acts = D.acts) (hd : D'.dead = D.dead) (hs : ∀ i, i < D.n → D'.safe i = D.safe i)
    (hp : ∀ i, i < D.n → D'.pend i = D.pend i) (hl : ∀ i, i < D.n → D.pend i = true → D'.last i = D.last i) : DiskRep K w s a m D' := by
  obtain ⟨n1, n2, f1, f2, cap, arr, l, g1, g2, g3, g4, g5, g6, g7⟩ := h
  refine ⟨by omega, by omega, by omega, by omega, cap, arr, l, ?_, g2, by omega, fun i hi => ?_, g5, fun p hp' => ?_, fun i hi hpi => ?_⟩
  · rw [g1, hn, hf, ha, hd]
  · rw [hs i (by omega)]; exact g4 i (by omega)
  · obtain ⟨i, h1, h2, h3, h4⟩ := g6 p hp'
    exact ⟨i, h1, by omega, by rw [hp i h2]; exact h3, by rw [hl i h2 h3]; exact h4⟩
  · exact g7 i (by omega) (by rw [← hp i (by omega)]; exact hpi)
/-- one sector is made safe -/
theorem DiskRep.saved (h : DiskRep K w s a m D) {k : Nat} (hk : k < D.n) {v : Value} {bs : List UInt8} (hv : SecV K w v bs) :
    DiskRep K (w.setCell ⟨a, k, none⟩ v) s a m { D with safe := fun i => if i = k then bs else D.safe i } := by
  have hne := h.ne
  have hnb := h.no_bytes
  have ho : Only (· = a) w (w.setCell ⟨a, k, none⟩ v) := (Only.refl _ w).setCell (by exact Or.inl rfl) _
  obtain ⟨n1, n2, f1, f2, cap, arr, l, g1, g2, g3, g4, g5, g6, g7⟩ := h
  have hS : ∀ k arr fz, k = a → w.heap[k]? ≠ some (.cells arr 5 fz) ∨ K k := fun k arr fz hk => .inl (hnb k arr fz (.inr (.inl hk)))
  refine ⟨n1, n2, f1, f2, cap, _, l, ho.get g1 hne.1, get_setCell _ g2, g3, fun i hi => ?_, g5.only ho (fun e => hne.2.2 e.symm), fun p hp => ?_, g7⟩
  · by_cases hik : i = k
    · subst hik
      obtain ⟨u, hu, _⟩ := g4 i hi
      have hlt : i < arr.size := (Array.getElem?_eq_some_iff.1 hu).1
      refine ⟨v, by simp [hlt], ?_⟩
      simpa using hv.only ho hS
    · obtain ⟨u, hu, hsv⟩ := g4 i hi
      refine ⟨u, by rw [Array.getElem?_setIfInBounds_ne (by omega)]; exact hu, ?_⟩
      simpa [hik] using hsv.only ho hS
  · obtain ⟨i, h1, h2, h3, h4⟩ := g6 p hp
    exact ⟨i, h1, h2, h3, h4.only ho hS⟩
/-- the map is empty -/
theorem DiskRep.cleared (h : DiskRep K w s a m D) {c : Nat} (hm : MapI (setBlock w m (.map #[] c)) m []) :
    DiskRep K (setBlock w m (.map #[] c)) s a m { D with pend := fun _ => false } := by
  have hne := h.ne
  have hnb := h.no_bytes
  have ho : Only (· = m) w (setBlock w m (.map #[] c)) := (Only.refl _ w).setBlock (by exact Or.inl rfl) _
  obtain ⟨n1, n2, f1, f2, cap, arr, l, g1, g2, g3, g4, g5, g6, g7⟩ := h
  have hS : ∀ k arr fz, k = m → w.heap[k]? ≠ some (.cells arr 5 fz) ∨ K k := fun k arr fz hk => .inl (hnb k arr fz (.inr (.inr hk)))
  refine ⟨n1, n2, f1, f2, cap, arr, [], ho.get g1 hne.2.1, ho.get g2 hne.2.2, g3, fun i hi => ?_, hm, by simp, by simp⟩
  obtain ⟨u, hu, hsv⟩ := g4 i hi
  exact ⟨u, hu, hsv.only ho hS⟩
/-- all is safe -/
def DM.flush (D : DM) : DM := { D with safe := D.cur, pend := fun _ => false }
/-- in the midst of a flush: which entries (by their births) were made safe -/
structure Flushing (K : Nat → Prop) (w0 : World) (s a m r : Nat) (D : DM) (es : Array MapEntry) (clock : Nat) (n : Nat) (w : World) : Prop where
  it : ∃ seen D', w.heap[r]? = some (.mapIter (some m) clock seen clock) ∧ (leftOf es seen).size = n ∧ w.heap[m]? = some (.map es clock) ∧ DiskRep K w s a m D' ∧
    D' = { D with safe := D'.safe } ∧ (∀ i, i < D.n → D.pend i = false → D'.safe i = D.safe i) ∧ (∀ e ∈ es.toList, seen.contains e.born = true → ∀ i : Nat, e.key = vI i → D'.safe i = D.last i)
  only : Only (· = a) w0 w
theorem disk_Flush_nil (w : World) : Calls Tryd.prog 37 #[.pointer none] w fun e w' => e = .returned (vI 9) ∧ w = w' := by
  go_enter Tryd.func37, Tryd.ntmps37
  go_wp2_with (go_at_call 29; refine (able_nil _).mono ?_; rintro e w' ⟨rfl, rfl⟩)
  go_ret
  exact ⟨rfl, rfl⟩
theorem disk_Flush_dead (h : DiskRep K w s a m D) (hd : D.dead = true) : Calls Tryd.prog 37 #[.pointer (some ⟨s, 0, none⟩)] w fun e w' => e = .returned (vI 8) ∧ w = w' := by
  obtain ⟨cap, c0, c1, -, -, c4, -⟩ := h.cells
  rw [hd] at c4
  go_enter Tryd.func37, Tryd.ntmps37
  go_wp2_with (go_at_call 29; refine (able_yes _ s m true c1 c4).mono ?_; rintro e w' ⟨rfl, rfl⟩)
  go_ret
  exact ⟨rfl, rfl⟩
set_option maxHeartbeats 1000000 in
theorem disk_Flush (h : DiskRep K w s a m D) (hd : D.dead = false) : Calls Tryd.prog 37 #[.pointer (some ⟨s, 0, none⟩)] w fun e w' => e = .returned (vI 0) ∧ DiskRep K w' s a m D.flush.did ∧ Only (dblk s a m) w w' := by
  obtain ⟨cap, c0, c1, -, -, c4, -⟩ := h.cells
  rw [hd] at c4
  have hab := able_yes _ s m false c1 c4
  obtain ⟨es, clock, hm, hkv, hnd, hlt⟩ : ∃ es clock, w.heap[m]? = some (.map es clock) ∧ (∀ e ∈ es.toList, ∃ i : Nat, e.key = vI i ∧ i < D.n ∧ D.pend i = true ∧ SecV K w e.val (D.last i)) ∧ (es.toList.map (·.born)).Nodup ∧ ∀ e ∈ es.toList, e.born < clock := by
    obtain ⟨cap, arr, l, g1, g2, g3, g4, ⟨es, clock, hb, hm, h1, h2, h3⟩, g6, g7⟩ := h.mem
    refine ⟨es, clock, hb, fun e he => ?_, h1, h2⟩
    have : (e.key, e.val) ∈ l.map (fun p => (vI p.1, p.2)) := by rw [← hm]; exact List.mem_map_of_mem (f := fun e : MapEntry => (e.key, e.val)) he
    obtain ⟨p, hp, hpe⟩ := List.mem_map.1 this
    obtain ⟨i, e1, e2, e3, e4⟩ := g6 p hp
    have k1 : vI p.1 = e.key := congrArg Prod.fst hpe
    have k2 : p.2 = e.val := congrArg Prod.snd hpe
    exact ⟨i, by rw [← k1, ← e1], e2, e3, by rw [← k2]; exact e4⟩
  have hall : ∀ i, i < D.n → D.pend i = true → ∃ e ∈ es.toList, e.key = vI i := by
    intro i hi hp
    obtain ⟨cap, arr, l, g1, g2, g3, g4, ⟨es', clock', hb, hm', h1, h2, h3⟩, g6, g7⟩ := h.mem
    rw [hm] at hb
    obtain ⟨rfl, rfl⟩ : es = es' ∧ clock = clock' := by injection hb with hb; injection hb with e1 e2; exact ⟨e1, e2⟩
    obtain ⟨v, hv⟩ := g7 i hi hp
    have : (vI i, v) ∈ es.toList.map (fun e => (e.key, e.val)) := by rw [hm']; exact List.mem_map_of_mem (f := fun p : Int × Value => (vI p.1, p.2)) hv
    obtain ⟨e, he, hee⟩ := List.mem_map.1 this
    exact ⟨e, he, congrArg Prod.fst hee⟩
  have hr := run_range_map (P := Tryd.prog) w 59 3 22 m es clock Tryd.underlying59 hm
  have hlt0 := h.lt
  have HD := Lib.hid h
  have HM := Lib.hid hm
  have HKV := Lib.hid hkv
  have HND := Lib.hid hnd
  have HLT := Lib.hid hlt
  have HALL := Lib.hid hall
  clear h hm hkv hnd hlt hall hd c0
  go_enter Tryd.func37, Tryd.ntmps37
  go_wp2_with (go_at_call 29; refine hab.mono ?_; rintro e w' ⟨rfl, rfl⟩)
  go_loopg [4] (leftOf es #[]).size (fun n _ wr => Flushing K w s a m w.heap.size D es clock n wr)
  case atStart =>
    have hx : Ext w (w.alloc (.mapIter (some m) clock #[] clock)) := (Only.refl _ w).alloc _
    exact ⟨⟨#[], D, get_alloc, rfl, hx.get HM.out id, HD.out.ext hx, rfl, fun _ _ _ => rfl, fun e _ hc => by simp at hc⟩, hx.only _⟩
  case round =>
    obtain ⟨⟨seen, D', hit, hsz, hmap, hrep, hDD, hun, hdn⟩, hon⟩ := hrel
    have ho := Lib.hid hon
    have HU := Lib.hid hun
    have HN := Lib.hid hdn
    have HR := Lib.hid hrep
    have HDD := Lib.hid hDD
    have HMP := Lib.hid hmap
    have HIT := Lib.hid hit
    have hnx := run_next_at (P := Tryd.prog) wr 0 w.heap.size m clock clock seen es clock hit hmap HLT.out (Nat.le_refl _)
    clear hon hun hdn hrep hDD hit hmap hr
    rcases hnx with ⟨hz, hrun⟩ | ⟨e, he, w1, hw1, hrun⟩
    · obtain ⟨hc, hclr, hmc⟩ := run_clear_map (P := Tryd.prog) (ty := 0) Tryd.underlying59 HR.out.someMap.choose_spec
      have k1 : wr.cell? ⟨s, 1, none⟩ = some (.map (some m)) := ho.out.cell c1 (fun e => HD.out.ne.1 e)
      have HC := HR.out.cleared hmc
      have hdd := disk_did HC
      go_wp2_with (first
        | (at_builtin; go_loud (refine wpList_clear_run hclr rfl _ rfl rfl rfl ?_))
        | (go_at_call 25; refine hdd.mono ?_; rintro e w4 ⟨rfl, h4, h5⟩))
      go_ret
      refine ⟨rfl, ?_, ?_⟩
      · have hfl : (leftOf es seen).size = 0 := hz
        have hcur : ∀ i, i < D.n → D.cur i = D'.safe i := by
          intro i hi
          unfold DM.cur
          by_cases hp : D.pend i = true
          · rw [if_pos hp]
            obtain ⟨e, he, hek⟩ := HALL.out i hi hp
            exact (HN.out e he (all_seen es seen hfl e he) i hek).symm
          · rw [if_neg hp]
            exact (HU.out i hi (by simpa using hp)).symm
        have eD := HDD.out
        have e1 : D'.n = D.n := by rw [eD]
        have e2 : D'.fuse = D.fuse := by rw [eD]
        have e3 : D'.acts = D.acts := by rw [eD]
        have e4 : D'.dead = D.dead := by rw [eD]
        refine h4.congr e1.symm ?_ ?_ ?_ (fun i hi => hcur i (by rw [← e1]; exact hi)) (fun _ _ => rfl) (fun _ _ h => by cases h)
        · show (if 0 < D.fuse then D.fuse - 1 else D.fuse) = (if 0 < D'.fuse then D'.fuse - 1 else D'.fuse)
          rw [e2]
        · show wrap64 (D.acts + 1) = wrap64 (D'.acts + 1)
          rw [e3]
        · show (if 0 < D.fuse then decide (D.fuse - 1 = 0) else D.dead) = (if 0 < D'.fuse then decide (D'.fuse - 1 = 0) else D'.dead)
          rw [e2, e4]
      · exact ((ho.out.mono (fun _ h => .inr (.inl h))).setBlock (.inl (.inr (.inr rfl))) _).trans (h5.mono (fun _ h => .inl h))
    · have hes := (mem_left he).1
      obtain ⟨i, hk, hi, hp, hsv⟩ := HKV.out e hes
      have hrlt : w.heap.size < wr.heap.size := lt_of_get HIT.out
      have hx1 : Only (· = w.heap.size) wr (setBlock w1 w.heap.size (.mapIter (some m) clock (seen.push e.born) clock)) := by
        rcases hw1 with rfl | rfl
        · exact (Only.refl _ _).setBlock (by exact Or.inl rfl) _
        · exact ((Only.refl _ _).drew).setBlock (by exact Or.inl rfl) _
      have hit2 : (setBlock w1 w.heap.size (.mapIter (some m) clock (seen.push e.born) clock)).heap[w.heap.size]? = some (.mapIter (some m) clock (seen.push e.born) clock) := by
        rcases hw1 with rfl | rfl <;> exact get_setBlock HIT.out
      generalize hW2 : setBlock w1 w.heap.size (.mapIter (some m) clock (seen.push e.born) clock) = W2 at *
      have hmap2 : W2.heap[m]? = some (.map es clock) := hx1.get HMP.out (by omega)
      have hrep2 : DiskRep K W2 s a m D' := HR.out.only hx1 (by omega) (by omega) (by omega) (by rintro k arr fz rfl; exact .inl (by rw [HIT.out]; simp))
      have hent := run_entry_at (P := Tryd.prog) W2 w.heap.size m clock seen es clock e hit2 hmap2 hes HND.out
      have hoW : Only (· = a) w W2 := ho.out.andThen hx1 (by rintro k rfl; exact .inr (Nat.le_refl _))
      have hsv2 : SecV K W2 e.val (D.last i) := hsv.only hoW (fun k arr fz hk => .inl (HD.out.no_bytes k arr fz (.inr (.inl hk))))
      obtain ⟨cap2, d0, -, -, -, -, -⟩ := hrep2.cells
      obtain ⟨cap3, arr, l3, -, ga, -, gs, -⟩ := hrep2.mem
      have eD := HDD.out
      have e1 : D'.n = D.n := by rw [eD]
      rw [e1] at d0 gs
      obtain ⟨u, hu, -⟩ := gs i hi
      have ca : W2.cell? ⟨a, i, none⟩ = some u := blk_cell ga hu
      have fa : W2.frozen? ⟨a, i, none⟩ = false := blk_free ga i
      have hsave := hrep2.saved (by rw [e1]; exact hi) hsv2
      obtain ⟨A, c, ev⟩ := hsv.1.len
      have HS := Lib.hid hsave
      have HO := Lib.hid hoW
      have HI2 := Lib.hid hit2
      have HM2 := Lib.hid hmap2
      have HE := Lib.hid he
      have HES := Lib.hid hes
      have HP := Lib.hid hp
      have HK := Lib.hid hk
      rw [hk, ev] at hrun hent
      clear hsave hoW hit2 hmap2 he hes hp hsv hsv2 hw1 hW2 hx1 hrep2 gs ga hu eD e1 hlt0 hrlt hk
      rw [ev] at HS
      clear ev
      go_wp2
      go_roundg (leftOf es (seen.push e.born)).size
      case measure => rw [← hsz]; exact left_shrinks es seen e HE.out
      case rel =>
        have hx5 : Only (· = a) W2 (W2.setCell ⟨a, i, none⟩ (.slice A (D.last i).length c)) := (Only.refl _ W2).setCell (by exact Or.inl rfl) _
        rw [List.length_map] at HS
        refine ⟨⟨seen.push e.born, { D' with safe := fun j => if j = i then D.last i else D'.safe j }, hx5.get HI2.out (by have := HD.out.lt; omega), rfl, hx5.get HM2.out HD.out.ne.2.2.symm, HS.out, ?_, ?_, ?_⟩, HO.out.trans hx5⟩
        · rw [HDD.out]
        · intro j hj hpj
          have : j ≠ i := by rintro rfl; rw [HP.out] at hpj; cases hpj
          simp only [this, if_false]
          exact HU.out j hj hpj
        · intro x hx hc j hj
          simp only
          by_cases hji : j = i
          · rw [if_pos hji, hji]
          · rw [if_neg hji]
            rw [contains_push] at hc
            rcases Bool.or_eq_true_iff.1 hc with hc | hc
            · exact HN.out x hx hc j hj
            · have hb : x.born = e.born := by simpa using hc
              have := born_inj HND.out hx HES.out hb
              subst this
              rw [HK.out] at hj
              exact absurd (by injection hj with _ hj; omega) hji
end methods
end Go.Proofs.YtbgcelfmelpbeaaDoor
