/- The disk: Write. -/
import Derived.Test.YtbgcelfmelpbeaaDoorDiskC
namespace Go.Proofs.YtbgcelfmelpbeaaDoor
open Go.RowKit
open Go.ChangeMaps (setBlock)
section methods
variable {K : Nat → Prop} {w w' : World} {s a m : Nat} {D : DM}
/-- sector k waits to be bs -/
def DM.put (D : DM) (k : Nat) (bs : List UInt8) : DM := { D with last := fun i => if i = k then bs else D.last i, pend := fun i => if i = k then true else D.pend i }
theorem putI_mem {l : List (Int × Value)} {k : Int} {v : Value} {p : Int × Value} : p ∈ putI l k v ↔ p = (k, v) ∨ (p ∈ l ∧ p.1 ≠ k) := by
  unfold putI
  split
  · rename_i hk
    constructor
    · intro hp
      obtain ⟨q, hq, rfl⟩ := List.mem_map.1 hp
      by_cases hqk : q.1 = k
      · rw [if_pos hqk]; exact .inl rfl
      · rw [if_neg hqk]; exact .inr ⟨hq, hqk⟩
    · rintro (rfl | ⟨hp, hne⟩)
      · obtain ⟨q, hq, hqk⟩ := List.mem_map.1 hk
        exact List.mem_map.2 ⟨q, hq, by rw [if_pos hqk]⟩
      · exact List.mem_map.2 ⟨p, hp, by rw [if_neg hne]⟩
  · rename_i hk
    rw [List.mem_append, List.mem_singleton]
    constructor
    · rintro (hp | rfl)
      · exact .inr ⟨hp, fun e => hk (by rw [← e]; exact List.mem_map_of_mem hp)⟩
      · exact .inl rfl
    · rintro (rfl | ⟨hp, _⟩)
      · exact .inr rfl
      · exact .inl hp
/-- the map has got a new entry -/
theorem DiskRep.stored {w1 : World} (h : DiskRep K w1 s a m D) {k : Nat} (hk : k < D.n) {v : Value} {bs : List UInt8} (hv : SecV K w1 v bs) (ho : Only (· = m) w1 w')
    (hm : ∀ l, MapI w1 m l → MapI w' m (putI l k v)) : DiskRep K w' s a m (D.put k bs) := by
  have hne := h.ne
  have hnb := h.no_bytes
  obtain ⟨n1, n2, f1, f2, cap, arr, l, g1, g2, g3, g4, g5, g6, g7⟩ := h
  have hS : ∀ k arr fz, k = m → w1.heap[k]? ≠ some (.cells arr 5 fz) ∨ K k := fun k arr fz hk => .inl (hnb k arr fz (.inr (.inr hk)))
  refine ⟨n1, n2, f1, f2, cap, arr, _, ho.get g1 hne.2.1, ho.get g2 hne.2.2, g3, fun i hi => ?_, hm l g5, fun p hp => ?_, fun i hi hpi => ?_⟩
  · obtain ⟨u, hu, hsv⟩ := g4 i hi
    exact ⟨u, hu, hsv.only ho hS⟩
  · rcases putI_mem.1 hp with rfl | ⟨hp, hpk⟩
    · exact ⟨k, rfl, hk, by simp [DM.put], by simpa [DM.put] using hv.only ho hS⟩
    · obtain ⟨i, hi1, hi2, hi3, hi4⟩ := g6 p hp
      have hik : i ≠ k := by rintro rfl; exact hpk hi1
      exact ⟨i, hi1, hi2, by simp [DM.put, hik, hi3], by simpa [DM.put, hik] using hi4.only ho hS⟩
  · by_cases hik : i = k
    · subst hik; exact ⟨v, putI_mem.2 (.inl rfl)⟩
    · obtain ⟨u, hu⟩ := g7 i hi (by simpa [DM.put, hik] using hpi)
      exact ⟨u, putI_mem.2 (.inr ⟨hu, by simp; omega⟩)⟩
theorem DiskRep.someMap (h : DiskRep K w s a m D) : ∃ l, MapI w m l := by obtain ⟨_, _, l, _, _, _, _, h, _⟩ := h.mem; exact ⟨l, h⟩
theorem SecV.of_owns {base : Nat} {v : Value} {bs : List UInt8} (h : w.ownsRow base 5 1 v bs.length (bs.map vB)) (h2 : bs.length = 256) (hK : ∀ k, K k → k < base) : SecV K w v bs := by
  refine ⟨Sl.of_owns h, h2, fun k hk hKk => ?_⟩
  have := (h.lt k hk).1
  have := hK k hKk
  omega
theorem disk_Write_nil (w : World) (i : Int) (v : Value) : Calls Tryd.prog 10 #[.pointer none, vI i, v] w fun e w' => e = .returned (vI 9) ∧ w = w' := by
  go_enter Tryd.func10, Tryd.ntmps10
  go_wp2_with (go_at_call 23; refine (there_nil _ i).mono ?_; rintro e w' ⟨rfl, rfl⟩)
  go_ret
  exact ⟨rfl, rfl⟩
theorem disk_Write_no (h : DiskRep K w s a m D) (i : Int) (v : Value) (hc : thereC D.n D.dead i ≠ 0) :
    Calls Tryd.prog 10 #[.pointer (some ⟨s, 0, none⟩), vI i, v] w fun e w' => e = .returned (vI (thereC D.n D.dead i)) ∧ w = w' := by
  obtain ⟨cap, c0, c1, -, -, c4, -⟩ := h.cells
  have hb : (thereC D.n D.dead i != 0) = true := by simpa using hc
  have ht := there_yes _ s m a D.n cap D.dead i c1 c4 c0
  generalize thereC D.n D.dead i = r at *
  go_enter Tryd.func10, Tryd.ntmps10
  go_wp2_with (go_at_call 23; refine ht.mono ?_; rintro e w' ⟨rfl, rfl⟩)
  go_ret
  exact ⟨rfl, rfl⟩
theorem disk_Write_len (h : DiskRep K w s a m D) (k : Nat) (hd : D.dead = false) (hk : k < D.n) (A : Option Addr) (n c : Nat) (hn : n ≠ 256) :
    Calls Tryd.prog 10 #[.pointer (some ⟨s, 0, none⟩), vI k, .slice A n c] w fun e w' => e = .returned (vI 1) ∧ w = w' := by
  obtain ⟨cap, c0, c1, -, -, c4, -⟩ := h.cells
  have hcode : thereC D.n false k = 0 := by unfold thereC; rw [if_neg (by simp), if_neg (by omega)]
  rw [hd] at c4
  have ht := there_yes _ s m a D.n cap false k c1 c4 c0
  rw [hcode] at ht
  have hb : ((n : Int) != 256) = true := by rw [bne_iff_ne]; omega
  clear hcode
  go_enter Tryd.func10, Tryd.ntmps10
  go_wp2_with (go_at_call 23; refine ht.mono ?_; rintro e w' ⟨rfl, rfl⟩)
  go_ret
  exact ⟨rfl, rfl⟩
set_option maxHeartbeats 1000000 in
theorem disk_Write_yes (h : DiskRep K w s a m D) (hK : ∀ k, K k → k < w.heap.size) (k : Nat) (hd : D.dead = false) (hk : k < D.n) {v : Value} {bs : List UInt8} (hv : Sl w 5 v (bs.map vB)) (hl : bs.length = 256) :
    Calls Tryd.prog 10 #[.pointer (some ⟨s, 0, none⟩), vI k, v] w fun e w' => e = .returned (vI 0) ∧ DiskRep K w' s a m (D.put k bs).did ∧ Only (dblk s a m) w w' := by
  obtain ⟨cap, c0, c1, -, -, c4, -⟩ := h.cells
  have hcode : thereC D.n false k = 0 := by unfold thereC; rw [if_neg (by simp), if_neg (by omega)]
  rw [hd] at c4
  have ht := there_yes _ s m a D.n cap false k c1 c4 c0
  rw [hcode] at ht
  clear hcode
  obtain ⟨A, c, ev⟩ := hv.len
  rw [List.length_map, hl] at ev
  subst ev
  have hcl : ∀ W, Ext w W → Calls Tryd.prog 24 #[.slice A 256 c] W fun e w' => ∃ v', e = .returned v' ∧ w'.ownsRow W.heap.size 5 1 v' 256 (bs.map vB) ∧ Ext W w' := fun W hx => by
    have := clone_any (hv.ext hx) (by omega)
    rwa [hl] at this
  have HD := Lib.hid h
  have HK := Lib.hid hK
  have HL := Lib.hid hl
  clear h hK hl hv
  go_enter Tryd.func10, Tryd.ntmps10
  go_wp2_with (go_at_call 23; refine ht.mono ?_; rintro e w' ⟨rfl, rfl⟩)
  go_region_held3 (fun w' => w'.cell? ⟨s, 1, none⟩ = some (.map (some m))) (go_keep)
    (first | (go_at_call 24; refine (hcl _ ((Only.refl _ _).drew)).mono ?_; rintro e w1 ⟨v', rfl, ho, hx⟩; (have k1 : w1.cell? ⟨s, 1, none⟩ = some (.map (some m)) := hx.cell c1 id); (have HX := Lib.hid hx); (have HO := Lib.hid ho); (obtain ⟨es', c', hrun, hmi⟩ := run_mapUpdate_all Tryd.underlying59 Tryd.underlying3 ((HD.out.ext (Only.refl _ _).drew).ext hx).someMap k v'); (have HM := Lib.hid hmi); clear hx ho hmi; (have k2 : (setBlock w1 m (.map es' c')).cell? ⟨s, 1, none⟩ = some (.map (some m)) := (((Only.refl (· = m) w1).setBlock (.inl rfl) _).cell k1 HD.out.ne.2.1))))
  have H1 : DiskRep K w1 s a m D := (HD.out.ext (Only.refl _ _).drew).ext HX.out
  have hsv : SecV K w1 v' bs := SecV.of_owns (by rw [HL.out]; exact HO.out) HL.out HK.out
  have om : Only (· = m) w1 (setBlock w1 m (.map es' c')) := (Only.refl _ w1).setBlock (by exact Or.inl rfl) _
  have H2 : DiskRep K (setBlock w1 m (.map es' c')) s a m (D.put k bs) := H1.stored hk hsv om HM.out
  have H3 := disk_did H2
  have hxm : Only (dblk s a m) w (setBlock w1 m (.map es' c')) := (((Only.refl _ w).drew).trans (HX.out.only _)).trans (om.mono (fun _ h => .inr (.inr h)))
  have HX3 := Lib.hid hxm
  clear hxm om hsv H1 H2 hcl hrun
  go_wp2_with (go_at_call 25; refine H3.mono ?_; rintro e w4 ⟨rfl, h4, h5⟩)
  go_ret
  exact ⟨rfl, h4, HX3.out.trans (h5.mono (fun _ h => .inl h))⟩
end methods
end Go.Proofs.YtbgcelfmelpbeaaDoor
