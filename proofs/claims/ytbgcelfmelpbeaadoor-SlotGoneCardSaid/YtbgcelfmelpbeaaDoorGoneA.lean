/- SlotGone: its acts, as they are read; huge; what a slot tells in whatever state. -/
import Derived.Test.YtbgcelfmelpbeaaDoorSlotC
import Derived.Test.YtbgcelfmelpbeaaDoorReadS
import Derived.Test.YtbgcelfmelpbeaaDoorSame
namespace Go.Proofs.YtbgcelfmelpbeaaDoor
open Go.RowKit Go.ChangeShapes Go.WideShapes
set_option linter.unusedSimpArgs false
/-- an act of layer 14 -/
structure ActS where
  kind : Int
  pos : Int
  vA : Option Addr
  vc : Nat
  e : TypeId
  bs : List UInt8
instance : Inhabited ActS := ⟨⟨0, 0, none, 0, 0, []⟩⟩
def ActsS (w : World) (v : Value) (L : List ActS) : Prop := L.length ≤ maxLen ∧ ∃ A c, v = .slice A L.length c ∧ ∀ j (hj : j < L.length), ∃ b off, A = some ⟨b, off, none⟩ ∧
  w.cell? ⟨b, off + j * 3, none⟩ = some (vI L[j].kind) ∧ w.cell? ⟨b, off + j * 3 + 1, none⟩ = some (vI L[j].pos) ∧ w.cell? ⟨b, off + j * 3 + 2, none⟩ = some (.slice L[j].vA L[j].bs.length L[j].vc) ∧
  Sl w L[j].e (.slice L[j].vA L[j].bs.length L[j].vc) (L[j].bs.map vB)
theorem ActsS.ext {w w' : World} {v : Value} {L : List ActS} (h : ActsS w v L) (hx : Ext w w') : ActsS w' v L := by
  obtain ⟨hm, A, c, h1, h2⟩ := h
  refine ⟨hm, A, c, h1, fun j hj => ?_⟩
  obtain ⟨b, off, e, c0, c1, c2, hs⟩ := h2 j hj
  exact ⟨b, off, e, hx.cell c0 id, hx.cell c1 id, hx.cell c2 id, hs.ext hx⟩
section
variable {w : World} {H : Type} {enc : TypeId × Value → H} {base : Nat} {spare : Nat → Bool} {held : Bool} {v : Value} {d : DataW H} {ps : List MemPlace}
theorem cells_int : Tryd.prog.cellsOf 3 = 1 := by kernel_rfl
theorem cells_u8 : Tryd.prog.cellsOf 5 = 1 := by kernel_rfl
theorem cells_bool : Tryd.prog.cellsOf 4 = 1 := by kernel_rfl
theorem cells_bytes : Tryd.prog.cellsOf 22 = 1 := by kernel_rfl
theorem cells_bools : Tryd.prog.cellsOf 28 = 1 := by kernel_rfl
theorem cells_actS : Tryd.prog.cellsOf 45 = 3 := by kernel_rfl
theorem bytes_cell {fuel : Nat} {x : DataW H × List MemPlace} (h : DataW.trod enc Tryd.prog w base spare held fuel 22 [v] = some x) : ∃ (e : TypeId) (bs : List UInt8), Sl w e v (bs.map vB) :=
  slice_open vB Tryd.underlying22 cells_u8 (fun n u y h => by
    obtain ⟨k, hk, -, hw⟩ := DataW.trod_int Tryd.underlying5 h
    obtain ⟨c, rfl⟩ := byte_of hw
    exact ⟨c, (List.cons.inj hk).1⟩) h
theorem bools_cell {fuel : Nat} {x : DataW H × List MemPlace} (h : DataW.trod enc Tryd.prog w base spare held fuel 28 [v] = some x) : ∃ (e : TypeId) (bs : List Bool), Sl w e v (bs.map Value.bool) :=
  slice_open Value.bool Tryd.underlying28 cells_bool (fun n u y h => by
    obtain ⟨k, hk, -⟩ := DataW.trod_bool Tryd.underlying4 h
    exact ⟨k, (List.cons.inj hk).1⟩) h
set_option maxRecDepth 20000 in
theorem actsS_open {fuel : Nat} {x : DataW H × List MemPlace} (h : DataW.trod enc Tryd.prog w base spare held fuel 40 [v] = some x) : ∃ L, ActsS w v L := by
  rcases Deep.open_slice Tryd.underlying40 h with ⟨hv, -⟩ | ⟨a, len, cap, m, n, D, Pl, hv, hb, hl, hm, hmm, -, hx⟩
  · obtain rfl : v = .slice none 0 0 := (List.cons.inj hv).1
    exact ⟨[], Nat.zero_le _, none, 0, rfl, fun j hj => by simp at hj⟩
  · obtain rfl : v = .slice (some a) len cap := (List.cons.inj hv).1
    have hlm : len ≤ m := by rw [hmm]; split <;> omega
    have each : ∀ i, i < len → ∃ q : ActS, w.cell? (a.add (i * 3)) = some (vI q.kind) ∧ w.cell? (a.add (i * 3 + 1)) = some (vI q.pos) ∧ w.cell? (a.add (i * 3 + 2)) = some (.slice q.vA q.bs.length q.vc) ∧ Sl w q.e (.slice q.vA q.bs.length q.vc) (q.bs.map vB) := by
      intro i hi
      obtain ⟨cs', h1, h2⟩ := hx i (by omega)
      rw [cells_actS] at h1
      obtain ⟨_, hlen, hcell⟩ := World.cells?_some h1
      obtain ⟨xs, k, rfl, -, -, hxl, hf⟩ := DataW.trod_struct Tryd.underlying45 h2
      match cs', hlen with
      | [u0, u1, u2], _ =>
        have g0 := hf 0 _ rfl
        have g1 := hf 1 _ rfl
        have g2 := hf 2 _ rfl
        change DataW.trod enc _ w base spare held k 3 (List.take (Tryd.prog.cellsOf 3) [u0, u1, u2]) = _ at g0
        change DataW.trod enc _ w base spare held k 3 (List.take (Tryd.prog.cellsOf 3) [u1, u2]) = _ at g1
        change DataW.trod enc _ w base spare held k 22 (List.take (Tryd.prog.cellsOf 22) [u2]) = _ at g2
        rw [cells_int] at g0 g1
        rw [cells_bytes] at g2
        rw [List.getElem?_eq_getElem (by rw [hxl]; decide)] at g0 g1 g2
        obtain ⟨n0, h0, -, -⟩ := DataW.trod_int Tryd.underlying3 g0
        obtain ⟨n1, h1', -, -⟩ := DataW.trod_int Tryd.underlying3 g1
        obtain ⟨e2, bs, hs⟩ := bytes_cell g2
        obtain rfl : u0 = vI n0 := (List.cons.inj h0).1
        obtain rfl : u1 = vI n1 := (List.cons.inj h1').1
        obtain ⟨vA, vc, hv2⟩ := hs.len
        rw [List.length_map] at hv2
        subst hv2
        have e0 := hcell 0 (by omega)
        have e1 := hcell 1 (by omega)
        have e2' := hcell 2 (by omega)
        rw [Deep.add_add] at e0 e1 e2'
        exact ⟨⟨n0, n1, vA, vc, e2, bs⟩, e0, e1, e2', hs⟩
    obtain ⟨L, rfl, hL⟩ := exists_list each
    refine ⟨L, Nat.le_trans hl hm, some a, cap, rfl, fun j hj => ?_⟩
    obtain ⟨c0, c1, c2, hs⟩ := hL j hj
    have ha : a = ⟨a.block, a.off, none⟩ := by
      obtain ⟨c00, -⟩ := hL 0 (by omega)
      simp only [Nat.zero_mul, Addr.add, if_true] at c00
      exact spot_of_cell c00
    generalize a.block = b at ha
    generalize a.off = o at ha
    subst ha
    rw [Addr.add_lit] at c0 c1 c2
    exact ⟨b, o, rfl, c0, c1, c2, hs⟩
end
theorem bool_or (b : Bool) : Value.bool b = .bool true ∨ Value.bool b = .bool false := by cases b <;> simp
theorem huge_any {w : World} {v : Value} {L : List ActS} (h : ActsS w v L) : Calls Tryd.prog 14 #[v] w fun e w' => ∃ u, e = .returned u ∧ Hid (u = .bool true ∨ u = .bool false) ∧ w = w' := by
  obtain ⟨hlm, A, c, rfl, h2⟩ := h
  unfold maxLen at hlm
  go_enter Tryd.func14, Tryd.ntmps14
  go_wp2
  go_loopw [3] (fun i wr => ∃ k : Nat, k ≤ L.length ∧ i = vI k ∧ Hid (w = wr)) (fun i _ => L.length - (RowKit.intOf i).toNat)
  case atStart => exact ⟨0, Nat.zero_le _, rfl, rfl⟩
  case round =>
    obtain ⟨k, hk, rfl, hw⟩ := hrel
    obtain rfl := hw.out
    clear hw
    by_cases hlt : k < L.length
    · obtain ⟨b, off, rfl, c0, c1, c2, -⟩ := h2 k hlt
      generalize L[k] = act at *
      obtain ⟨kd, pos, vA, vc, e0, bs⟩ := act
      clear h2
      by_cases h100 : k < 100
      · have h1 : (k : Int) < 100 := by omega
        have d1 : decide ((k : Int) < 100) = true := by simp; omega
        by_cases h3 : 300 < bs.length
        · have h3' : (300 : Int) < bs.length := by omega
          go_wp2
          go_ret
          exact ⟨_, rfl, bool_or _, rfl⟩
        · have h3' : ¬ (300 : Int) < bs.length := by omega
          go_wp2
          go_roundw
          case rel => exact ⟨k + 1, by omega, by go_num, trivial⟩
          case measure => simp [RowKit.intOf]; omega
      · have h1 : ¬ (k : Int) < 100 := by omega
        have d1 : decide ((k : Int) < 100) = false := by simp; omega
        go_wp2
        go_ret
        exact ⟨_, rfl, bool_or _, rfl⟩
    · have hk' : ¬ (k : Int) < L.length := by omega
      clear h2
      go_wp2
      go_ret
      exact ⟨_, rfl, bool_or _, rfl⟩
end Go.Proofs.YtbgcelfmelpbeaaDoor
