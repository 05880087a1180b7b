/- Reading what a caller hands in: cells of blocks under a bound; the acts of layer 8. -/
import Derived.Test.YtbgcelfmelpbeaaLive8
import Derived.Deep.Slices
import Derived.ChangeArms
namespace Go.Proofs.Ytbgcelfmelpbeaa
open Go.RowKit Go.ChangeShapes Go.WideShapes
/-- an act of layer 8 -/
structure ActM where
  kind : Int
  pos : Int
  c : UInt8
  short : Bool
  kA : Option Addr
  kl : Nat
  kc : Nat
def ActsAt (B : Nat) (w : World) (v : Value) (L : List ActM) : Prop := ∃ A c, v = .slice A L.length c ∧ ∀ j (hj : j < L.length), ∃ b off, A = some ⟨b, off, none⟩ ∧ b < B ∧
  w.cell? ⟨b, off + j * 5, none⟩ = some (vI L[j].kind) ∧ w.cell? ⟨b, off + j * 5 + 1, none⟩ = some (vI L[j].pos) ∧ w.cell? ⟨b, off + j * 5 + 2, none⟩ = some (vB L[j].c) ∧ w.cell? ⟨b, off + j * 5 + 3, none⟩ = some (.bool L[j].short) ∧ w.cell? ⟨b, off + j * 5 + 4, none⟩ = some (.slice L[j].kA L[j].kl L[j].kc)
section
variable {B : Nat} {S : Nat → Prop} {w w' : World} {v : Value} {cs : List Value} {L : List ActM}
theorem ActsAt.only (h : ActsAt B w v L) (ho : Only S w w') (hS : ∀ k, S k → B ≤ k) : ActsAt B w' v L := by
  obtain ⟨A, c, h1, h2⟩ := h
  refine ⟨A, c, h1, fun j hj => ?_⟩
  obtain ⟨b, off, e, hb, c0, c1, c2, c3, c4⟩ := h2 j hj
  have hn : ∀ n, ¬ S (⟨b, n, none⟩ : Addr).block := fun n hs => by have := hS _ hs; simp at this; omega
  exact ⟨b, off, e, hb, ho.cell c0 (hn _), ho.cell c1 (hn _), ho.cell c2 (hn _), ho.cell c3 (hn _), ho.cell c4 (hn _)⟩
theorem ActsAt.ext (h : ActsAt B w v L) (ho : Ext w w') : ActsAt B w' v L := h.only ho (fun _ h => h.elim)
theorem spot_of_cell {w : World} {a : Addr} {v : Value} (h : w.cell? a = some v) : a = ⟨a.block, a.off, none⟩ := by
  obtain ⟨b, o, s⟩ := a
  cases s with
  | none => rfl
  | some n =>
    unfold World.cell? at h
    split at h <;> simp at h
variable {H : Type} {enc : TypeId × Value → H} {base : Nat} {spare : Nat → Bool} {held : Bool} {d : DataW H} {ps : List MemPlace}
theorem not_agg {r : Reach} {b0 : Nat} {t e : TypeId} (ht : Try.prog.underlying t = some (.slice e)) (hval : Value.okWide Try.prog w r b0 t v) {A : Option Addr} {l c : Nat} (h : v.cells.toList = [.slice A l c]) : v = .slice A l c := by
  unfold Value.okWide at hval
  rw [ht] at hval
  simp only at hval
  unfold Cell.okWide Cell.ok at hval
  rw [ht] at hval
  cases v <;> simp_all [Value.cells]
theorem cellsOf_int : Try.prog.cellsOf 3 = 1 := by kernel_rfl
theorem cellsOf_u8 : Try.prog.cellsOf 5 = 1 := by kernel_rfl
theorem cellsOf_bool : Try.prog.cellsOf 4 = 1 := by kernel_rfl
theorem cellsOf_act : Try.prog.cellsOf 32 = 5 := by kernel_rfl
theorem byte_of {a : Int} (h : (Lit.int .u8 a).wf = true) : ∃ c : UInt8, a = (c.toNat : Int) := by
  have hb : 0 ≤ a ∧ a ≤ 255 := by
    have := h
    simp [Lit.wf, IntKind.min, IntKind.max, IntKind.signed, IntKind.bits] at this
    omega
  refine ⟨UInt8.ofNat a.toNat, ?_⟩
  rw [UInt8.toNat_ofNat_of_lt' (by show a.toNat < 256; omega)]
  omega
theorem exists_list {α : Type} [Inhabited α] {n : Nat} {p : Nat → α → Prop} (h : ∀ i, i < n → ∃ x, p i x) : ∃ l : List α, l.length = n ∧ ∀ i (hi : i < l.length), p i l[i] := by
  obtain ⟨f, hf⟩ := Deep.choose_lt h
  exact ⟨(List.range n).map f, by simp, fun i hi => by simpa using hf i (by simpa using hi)⟩
instance : Inhabited ActM := ⟨⟨0, 0, 0, false, none, 0, 0⟩⟩
theorem acts_open {r : Reach} {b0 : Nat} (hval : Value.okWide Try.prog w r b0 22 v) (h : DataW.Trod enc Try.prog w base spare held 22 v d ps) : ∃ L, ActsAt w.heap.size w v L := by
  obtain ⟨fuel, h⟩ := h
  rcases Deep.open_slice Try.underlying22 h with ⟨hv, -⟩ | ⟨a, len, cap, m, n, D, Pl, hv, hb, hl, hm, hmm, -, hx⟩
  · obtain rfl := not_agg Try.underlying22 hval hv
    exact ⟨[], none, 0, rfl, fun j hj => by simp at hj⟩
  · obtain rfl := not_agg Try.underlying22 hval hv
    have hlm : len ≤ m := by rw [hmm]; split <;> omega
    have each : ∀ i, i < len → ∃ q : ActM, w.cell? (a.add (i * 5)) = some (vI q.kind) ∧ w.cell? (a.add (i * 5 + 1)) = some (vI q.pos) ∧ w.cell? (a.add (i * 5 + 2)) = some (vB q.c) ∧ w.cell? (a.add (i * 5 + 3)) = some (.bool q.short) ∧ w.cell? (a.add (i * 5 + 4)) = some (.slice q.kA q.kl q.kc) := by
      intro i hi
      obtain ⟨cs', h1, h2⟩ := hx i (by omega)
      rw [cellsOf_act] at h1
      obtain ⟨_, hlen, hcell⟩ := World.cells?_some h1
      obtain ⟨xs, k, rfl, -, -, hxl, hf⟩ := DataW.trod_struct Try.underlying32 h2
      match cs', hlen with
      | [u0, u1, u2, u3, u4], _ =>
        have g0 := hf 0 _ rfl
        have g1 := hf 1 _ rfl
        have g2 := hf 2 _ rfl
        change DataW.trod enc _ w base spare held k 3 (List.take (Try.prog.cellsOf 3) [u0, u1, u2, u3, u4]) = _ at g0
        change DataW.trod enc _ w base spare held k 3 (List.take (Try.prog.cellsOf 3) [u1, u2, u3, u4]) = _ at g1
        change DataW.trod enc _ w base spare held k 5 (List.take (Try.prog.cellsOf 5) [u2, u3, u4]) = _ at g2
        have g3 := hf 3 _ rfl
        have g4 := hf 4 _ rfl
        change DataW.trod enc _ w base spare held k 4 (List.take (Try.prog.cellsOf 4) [u3, u4]) = _ at g3
        change DataW.trod enc _ w base spare held k 23 (List.take (Try.prog.cellsOf 23) [u4]) = _ at g4
        rw [cellsOf_int] at g0 g1
        rw [cellsOf_bool] at g3
        rw [show Try.prog.cellsOf 23 = 1 by kernel_rfl] at g4
        rw [cellsOf_u8] at g2
        rw [List.getElem?_eq_getElem (by rw [hxl]; decide)] at g0 g1 g2 g3 g4
        obtain ⟨n0, h0, -, -⟩ := DataW.trod_int Try.underlying3 g0
        obtain ⟨n1, h1', -, -⟩ := DataW.trod_int Try.underlying3 g1
        obtain ⟨n2, h2', -, hw2⟩ := DataW.trod_int Try.underlying5 g2
        obtain ⟨c, rfl⟩ := byte_of hw2
        obtain rfl : u0 = vI n0 := (List.cons.inj h0).1
        obtain rfl : u1 = vI n1 := (List.cons.inj h1').1
        obtain rfl : u2 = vB c := (List.cons.inj h2').1
        obtain ⟨q3, h3', -⟩ := DataW.trod_bool Try.underlying4 g3
        obtain rfl : u3 = .bool q3 := (List.cons.inj h3').1
        obtain ⟨kA, kl, kc, rfl⟩ : ∃ kA kl kc, u4 = .slice kA kl kc := by
          rcases DataW.trod_slice Try.underlying23 g4 with ⟨h4', -⟩ | ⟨a', l', c', _, _, _, _, h4', -⟩
          · exact ⟨_, _, _, (List.cons.inj h4').1⟩
          · exact ⟨_, _, _, (List.cons.inj h4').1⟩
        have e0 := hcell 0 (by omega)
        have e1 := hcell 1 (by omega)
        have e2 := hcell 2 (by omega)
        have e3 := hcell 3 (by omega)
        have e4 := hcell 4 (by omega)
        rw [Deep.add_add] at e0 e1 e2 e3 e4
        exact ⟨⟨n0, n1, c, q3, kA, kl, kc⟩, e0, e1, e2, e3, e4⟩
    obtain ⟨L, rfl, hL⟩ := exists_list each
    refine ⟨L, some a, cap, rfl, fun j hj => ?_⟩
    obtain ⟨c0, c1, c2, c3, c4⟩ := hL j hj
    by_cases h0 : a.spot = none
    · obtain ⟨b, off, s⟩ := a
      simp only at h0
      subst h0
      simp only [Addr.add_lit] at c0 c1 c2 c3 c4
      exact ⟨b, off, rfl, World.block_lt_of_cell? w _ c0, c0, c1, c2, c3, c4⟩
    · obtain ⟨c0, -⟩ := hL 0 (by omega)
      exact absurd (by simpa [Addr.add] using congrArg Addr.spot (spot_of_cell c0)) h0
theorem bools_open {r : Reach} {b0 : Nat} (hval : Value.okWide Try.prog w r b0 23 v) (h : DataW.Trod enc Try.prog w base spare held 23 v d ps) : ∃ keep : List Bool, Cs w.heap.size w v (keep.map Value.bool) := by
  obtain ⟨fuel, h⟩ := h
  rcases Deep.open_slice1 Try.underlying23 cellsOf_bool h with ⟨hv, -⟩ | ⟨a, len, cap, m, n, V, D, Pl, hv, hb, hl, hm, hmm, -, hx⟩
  · obtain rfl := not_agg Try.underlying23 hval hv
    exact ⟨[], none, 0, rfl, fun j hj => by simp at hj⟩
  · obtain rfl := not_agg Try.underlying23 hval hv
    have hlm : len ≤ m := by rw [hmm]; split <;> omega
    have each : ∀ i, i < len → ∃ q : Bool, w.cell? (a.add i) = some (.bool q) := by
      intro i hi
      obtain ⟨c0, h2⟩ := hx i (by omega)
      obtain ⟨q, hq, -⟩ := DataW.trod_bool Try.underlying4 h2
      simp only [List.cons.injEq, and_true] at hq
      rw [hq] at c0
      exact ⟨q, c0⟩
    obtain ⟨L, rfl, hL⟩ := exists_list each
    refine ⟨L, some a, cap, by rw [List.length_map], fun j hj => ?_⟩
    have c0 := hL j (by simpa using hj)
    rw [List.getElem_map]
    by_cases h0 : a.spot = none
    · obtain ⟨b, off, s⟩ := a
      simp only at h0
      subst h0
      rw [Addr.add_lit] at c0
      exact ⟨b, off, rfl, World.block_lt_of_cell? w _ c0, c0⟩
    · have c0 := hL 0 (by simp at hj; omega)
      exact absurd (by simpa [Addr.add] using congrArg Addr.spot (spot_of_cell c0)) h0
end
end Go.Proofs.Ytbgcelfmelpbeaa
