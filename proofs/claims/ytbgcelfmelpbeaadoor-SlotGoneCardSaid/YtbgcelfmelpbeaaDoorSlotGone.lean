/- For every list of acts, every number and every crash the statement SlotGone is true, and what it is given reads as it did; its tied card. -/
import Derived.Test.YtbgcelfmelpbeaaDoorRows
import Derived.Test.YtbgcelfmelpbeaaDoorCards
import Derived.Test.YtbgcelfmelpbeaaDoorTie
import Derived.Test.YtbgcelfmelpbeaaDoorGoneW
import Derived.ProofKit
import Derived.OpenShut
import Derived.Below
import Derived.ChangeSame
import Derived.ChangeVars
import Derived.JoinedOf
import Derived.LaidLaws
import Derived.LaidHandle
import Derived.Lay
import Derived.Carry
import Derived.SevenTiedAt
namespace Go.Proofs.YtbgcelfmelpbeaaDoor.slotGone
open Go.ChangeShapes Go.WideShapes Go.ChangeAt Go.RowKit
set_option linter.unusedVariables false
set_option linter.constructorNameAsVariable false
theorem not_agg {w : World} {v : Value} {r : Reach} {b0 : Nat} {t e : TypeId} (ht : Tryd.prog.underlying t = some (.slice e)) (hval : Value.okWide Tryd.prog w r b0 t v) {A : Option Addr} {l c : Nat} (h : v.cells.toList = [.slice A l c]) : v = .slice A l c := by
  unfold Value.okWide at hval
  rw [ht] at hval
  simp only at hval
  unfold Cell.okWide Cell.ok at hval
  rw [ht] at hval
  cases v <;> simp_all [Value.cells]
theorem own : ownKnob Tryd.prog.godebug = none := by kernel_rfl
theorem laidOut : laidOutB Tryd.prog = true := by kernel_rfl
section
variable {w : World} {H : Type} {enc : TypeId × Value → H} {base : Nat} {spare : Nat → Bool} {held : Bool} {v : Value} {d : DataW H} {ps : List MemPlace}
set_option maxRecDepth 20000 in
theorem acts_arg {r : Reach} {b0 : Nat} (hv : Value.okWide Tryd.prog w r b0 40 v) (h : DataW.Trod enc Tryd.prog w base spare held 40 v d ps) : ∃ L, ActsS w v L := by
  obtain ⟨fuel, hh⟩ := h
  have hsl : ∃ A n c, v = .slice A n c := by
    rcases DataW.trod_slice Tryd.underlying40 hh with ⟨hv', -⟩ | ⟨a', l', c', _, _, _, _, hv', -⟩
    · exact ⟨none, 0, 0, not_agg Tryd.underlying40 hv hv'⟩
    · exact ⟨some a', l', c', not_agg Tryd.underlying40 hv hv'⟩
  obtain ⟨A, n, c, rfl⟩ := hsl
  exact actsS_open (v := .slice A n c) hh
set_option maxRecDepth 20000 in
theorem crash_cells {fuel : Nat} {cl : List Value} {x : DataW H × List MemPlace} (h : DataW.trod enc Tryd.prog w base spare held fuel 42 cl = some x) :
    ∃ (fuse : Int) (ek : TypeId) (kA : Option Addr) (kc : Nat) (keep : List Bool), cl = [.int .i64 fuse, .slice kA keep.length kc] ∧ Sl w ek (.slice kA keep.length kc) (keep.map Value.bool) ∧ fuse ≤ 9223372036854775807 := by
  obtain ⟨xs, k, rfl, -, hlen, hxl, hf⟩ := DataW.trod_struct Tryd.underlying42 h
  have hc2 : Tryd.prog.cellsOf 42 = 2 := by kernel_rfl
  rw [hc2] at hlen
  match cl, hlen with
  | [u0, u1], _ =>
    have g0 := hf 0 _ rfl
    have g1 := hf 1 _ rfl
    change DataW.trod enc Tryd.prog w base spare held k 3 (List.take (Tryd.prog.cellsOf 3) [u0, u1]) = _ at g0
    change DataW.trod enc Tryd.prog w base spare held k 28 (List.take (Tryd.prog.cellsOf 28) [u1]) = _ at g1
    rw [cells_int] at g0
    rw [cells_bools] at g1
    rw [List.getElem?_eq_getElem (by rw [hxl]; decide)] at g0 g1
    obtain ⟨n0, hn0, -, hw0⟩ := DataW.trod_int Tryd.underlying3 g0
    obtain ⟨ek, keep, hs⟩ := bools_cell g1
    obtain rfl : u0 = vI n0 := (List.cons.inj hn0).1
    obtain ⟨kA, kc, hv2⟩ := hs.len
    rw [List.length_map] at hv2
    subst hv2
    have hb : n0 ≤ 9223372036854775807 := by
      have := hw0
      simp [Lit.wf, IntKind.min, IntKind.max, IntKind.signed, IntKind.bits] at this
      omega
    exact ⟨n0, ek, kA, kc, keep, rfl, hs, hb⟩
set_option maxRecDepth 20000 in
theorem crash_arg {r : Reach} {b0 : Nat} (hv : Value.okWide Tryd.prog w r b0 42 v) (h : DataW.Trod enc Tryd.prog w base spare held 42 v d ps) :
    ∃ (fuse : Int) (ek : TypeId) (kA : Option Addr) (kc : Nat) (keep : List Bool), v = .agg #[.int .i64 fuse, .slice kA keep.length kc] ∧ Sl w ek (.slice kA keep.length kc) (keep.map Value.bool) ∧ fuse ≤ 9223372036854775807 := by
  unfold Value.okWide at hv
  rw [Tryd.underlying42] at hv
  obtain ⟨cs, rfl, hsz, -⟩ := hv
  obtain ⟨fuel, hh⟩ := h
  obtain ⟨fuse, ek, kA, kc, keep, hcl, h1, h2⟩ := crash_cells (cl := cs.toList) hh
  refine ⟨fuse, ek, kA, kc, keep, ?_, h1, h2⟩
  congr 1
  exact Array.ext' hcl
end
theorem laid_met (os : Os) (args : Array Value) : laidMetH Tryd.prog Rows.slotGoneRow.laid ((World.laidAll Tryd.prog os Rows.slotGoneRow.laid).forCall (fun _ _ => 0) ⟨#[], args, []⟩).memory := by
  have h : laidMet Tryd.prog Rows.slotGoneRow.laid ((World.laidAll Tryd.prog os Rows.slotGoneRow.laid).forCall (fun _ _ => 0) ⟨#[], args, []⟩).memory := laidMet_laidAll args (by kernel_rfl) (by kernel_rfl)
  exact laidMetH_of_parts h (by kernel_rfl)
set_option maxRecDepth 100000 in
set_option maxHeartbeats 1000000 in
theorem lifted (os : Os) (started : os.Started) (H : Type) (enc : TypeId × Value → H) :
    ReturnsInHanded {} Tryd.checked os 4 .any (fun w args => (Rows.slotGoneSpec.pre enc Tryd.prog Tryd.f4 [] false w args ∧ laidMetH Tryd.prog Rows.slotGoneRow.laid w) ∧ sizedMet enc Tryd.prog Tryd.f4 (OpenSpec.ofChange Rows.slotGoneSpec) false w args)
      (Rows.slotGoneSpec.post enc Tryd.prog Tryd.f4 false true false false) := by
  refine returnsInHanded_of_change_and (C := Tryd.checked) (X := fun w _ => laidMetH Tryd.prog Rows.slotGoneRow.laid w) (fun _ _ _ hh h => h.of_heap hh) own started (by kernel_rfl) Tryd.func4
    (ChangeSpec.witness_shaped (enc := enc) (C := Tryd.checked) (os := os) (X := fun w _ => laidMetH Tryd.prog Rows.slotGoneRow.laid w) false (World.laidAll Tryd.prog os Rows.slotGoneRow.laid) #[.slice none 0 0, .int .i64 0, .agg #[.int .i64 0, .slice none 0 0]] 8 (World.laidAll_os _ _ _) (World.shaped_of_ZipB (by kernel_rfl) (by kernel_rfl)) (by kernel_rfl) (by kernel_rfl) (by kernel_rfl) (laid_met os _)) ?_
  intro W base args ds gs before hval0 hW _ _ hL _
  have hval : ∀ (j : Nat) t v, Tryd.f4.params[j]? = some t → args[j]? = some v → Value.okWide Tryd.prog W .any base t v := hval0
  have hW' := hW
  obtain ⟨p, q, hA0, hV0, rfl, hfz, hnd⟩ := hW
  have hA : DataW.TrodAll enc Tryd.prog W 0 (fun _ => true) true Tryd.f4.params.toList args.toList ds p := hA0
  rw [Tryd.params4] at hA hval
  obtain ⟨v0, vs0, d0, ds0, p0, q0, hargs, rfl, rfl, h0, r0⟩ := trodAll_cons hA
  obtain ⟨v1, vs1, d1, ds1, p1, q1, rfl, rfl, rfl, h1, r1⟩ := trodAll_cons r0
  obtain ⟨v2, vs2, d2, ds2, p2, q2, rfl, rfl, rfl, h2, r2⟩ := trodAll_cons r1
  obtain ⟨rfl, rfl, rfl⟩ := trodAll_nil r2
  obtain rfl : args = #[v0, v1, v2] := by cases args; simp_all
  obtain ⟨rfl, rfl⟩ := trodVars_none hV0
  have k0 := h0
  have k1 := h1
  have k2 := h2
  obtain ⟨a0, rfl, rfl, rfl, w0⟩ := open_int Tryd.underlying3 (hval 1 3 v1 rfl rfl) h1
  obtain ⟨L, hL⟩ := acts_arg (hval 0 40 v0 rfl rfl) h0
  obtain ⟨fuse, ek, kA, kc, keep, rfl, hk, hfu⟩ := crash_arg (hval 2 42 v2 rfl rfl) h2
  clear hA0 hval0
  refine (gone_any W v0 L a0 fuse ek kA kc keep hL hk hfu).mono fun e W' ⟨he, hx⟩ => ?_
  subst he
  have bel : Below W.heap.size W W' := hx.below (Nat.le_refl _) (fun _ h => h.elim)
  have lt0 : ∀ x ∈ p0, x.block < W.heap.size := by obtain ⟨n, hn⟩ := k0; exact DataW.trod_lt n _ _ _ hn
  have lt2 : ∀ x ∈ p2, x.block < W.heap.size := by obtain ⟨n, hn⟩ := k2; exact DataW.trod_lt n _ _ _ hn
  have m0 := Below.trod laidOut (by kernel_rfl) (of_decide_eq_true (by kernel_rfl)) k0 bel lt0
  have m2 := Below.trod laidOut (by kernel_rfl) (of_decide_eq_true (by kernel_rfl)) k2 bel lt2
  exact ⟨_, rfl, _, _, _, [], _, [], hW', trodAll_mk1 (shut_bool Tryd.underlying4 _), (trodAll_cons_mk m0 (trodAll_cons_mk (shut_int Tryd.underlying3 w0) (trodAll_cons_mk m2 trodAll_mk0))), rfl, bel.frame _, fun h => by cases h⟩
theorem over : Rows.slotGoneRow.holds Tryd.pinned (OpenSpec.ofChange Rows.slotGoneSpec) :=
  OpenClaim.holds_of_wide 4 Tryd.f4 rfl rfl rfl rfl rfl rfl rfl ⟨rfl, rfl, rfl, rfl, rfl⟩ rfl rfl rfl rfl rfl (by kernel_rfl) Tryd.func4 (by kernel_rfl)
    (of_decide_eq_true (by kernel_rfl)) (by unfold Func.isWrapper; first | (rw [if_pos (by decide +kernel)]; kernel_rfl) | (rw [if_neg (by decide +kernel)]; exact ⟨rfl, rfl⟩))
    (fun os started H enc _ => lifted os started H enc)
end Go.Proofs.YtbgcelfmelpbeaaDoor.slotGone
namespace Go.Proofs.YtbgcelfmelpbeaaDoor
theorem slotGone_holds : Rows.SlotGoneSaid := slotGone.over
theorem slotGone_card_holds : Rows.SlotGoneCardSaid :=
  Claim7.holds_tied_plain_at .later [] [.data, .pinned] true (true, "5c7d9543992be1c6350eee55d456c3a3a22df793aa84b44dce8052e8eeade58e") false
    slotGone_holds (fun _ h => by cases h) (by kernel_rfl) (fun _ h => by cases h) slotGone_row_tie rfl ⟨rfl, rfl⟩ (by kernel_rfl) rfl
    (fun f fn hf hfn => by
      obtain rfl : f = 4 := Option.some.inj ((show Tryd.prog.funcNamed "hanaper/hanaperlaw14.SlotGone" = some 4 by kernel_rfl).symm.trans hf) |>.symm
      obtain rfl : fn = Tryd.f4 := (Option.some.inj (Tryd.func4.symm.trans hfn)).symm
      refine ⟨by kernel_rfl, fun j t ht => ?_⟩
      rw [Tryd.params4] at ht
      have hall : ((#[40, 3, 42] : Array TypeId).toList.all fun t => !Tryd.prog.wantsStandIn t) = true := by kernel_rfl
      have := List.all_eq_true.1 hall t (List.mem_of_getElem? (by simpa using ht))
      exact (by simpa using this : Tryd.prog.wantsStandIn t = false))
    (by kernel_rfl)
#print axioms slotGone_card_holds
end Go.Proofs.YtbgcelfmelpbeaaDoor
