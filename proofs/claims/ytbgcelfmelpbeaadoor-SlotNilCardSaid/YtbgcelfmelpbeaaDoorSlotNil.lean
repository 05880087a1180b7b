/- For every number and every slice of bytes the statement SlotNil is true, and what it is given reads as it did; its tied card. -/
import Derived.Test.YtbgcelfmelpbeaaDoorRows
import Derived.Test.YtbgcelfmelpbeaaDoorCards
import Derived.Test.YtbgcelfmelpbeaaDoorTie
import Derived.Test.YtbgcelfmelpbeaaDoorSlotNilW
import Derived.ProofKit
import Derived.OpenShut
import Derived.Below
import Derived.ChangeSame
import Derived.ChangeVars
import Derived.JoinedOf
import Derived.LaidLaws
import Derived.LaidHandle
import Derived.Lay
import Derived.Carry
import Derived.SevenTiedAt
namespace Go.Proofs.YtbgcelfmelpbeaaDoor.slotNil
open Go.ChangeShapes Go.WideShapes Go.ChangeAt Go.RowKit
set_option linter.unusedVariables false
set_option linter.constructorNameAsVariable false
theorem not_agg {w : World} {v : Value} {r : Reach} {b0 : Nat} {t e : TypeId} (ht : Tryd.prog.underlying t = some (.slice e)) (hval : Value.okWide Tryd.prog w r b0 t v) {A : Option Addr} {l c : Nat} (h : v.cells.toList = [.slice A l c]) : v = .slice A l c := by
  unfold Value.okWide at hval
  rw [ht] at hval
  simp only at hval
  unfold Cell.okWide Cell.ok at hval
  rw [ht] at hval
  cases v <;> simp_all [Value.cells]
theorem own : ownKnob Tryd.prog.godebug = none := by kernel_rfl
theorem laidOut : laidOutB Tryd.prog = true := by kernel_rfl
theorem laid_met (os : Os) (args : Array Value) : laidMetH Tryd.prog Rows.slotNilRow.laid ((World.laidAll Tryd.prog os Rows.slotNilRow.laid).forCall (fun _ _ => 0) ⟨#[], args, []⟩).memory := by
  have h : laidMet Tryd.prog Rows.slotNilRow.laid ((World.laidAll Tryd.prog os Rows.slotNilRow.laid).forCall (fun _ _ => 0) ⟨#[], args, []⟩).memory := laidMet_laidAll args (by kernel_rfl) (by kernel_rfl)
  exact laidMetH_of_parts h (by kernel_rfl)
set_option maxRecDepth 100000 in
theorem lifted (os : Os) (started : os.Started) (H : Type) (enc : TypeId × Value → H) :
    ReturnsInHanded {} Tryd.checked os 3 .any (fun w args => (Rows.slotNilSpec.pre enc Tryd.prog Tryd.f3 [] false w args ∧ laidMetH Tryd.prog Rows.slotNilRow.laid w) ∧ sizedMet enc Tryd.prog Tryd.f3 (OpenSpec.ofChange Rows.slotNilSpec) false w args)
      (Rows.slotNilSpec.post enc Tryd.prog Tryd.f3 false true false false) := by
  refine returnsInHanded_of_change_and (C := Tryd.checked) (X := fun w _ => laidMetH Tryd.prog Rows.slotNilRow.laid w) (fun _ _ _ hh h => h.of_heap hh) own started (by kernel_rfl) Tryd.func3
    (ChangeSpec.witness_shaped (enc := enc) (C := Tryd.checked) (os := os) (X := fun w _ => laidMetH Tryd.prog Rows.slotNilRow.laid w) false (World.laidAll Tryd.prog os Rows.slotNilRow.laid) #[.int .i64 0, .slice none 0 0] 8 (World.laidAll_os _ _ _) (World.shaped_of_ZipB (by kernel_rfl) (by kernel_rfl)) (by kernel_rfl) (by kernel_rfl) (by kernel_rfl) (laid_met os _)) ?_
  intro W base args ds gs before hval0 hW _ _ hL _
  have hval : ∀ (j : Nat) t v, Tryd.f3.params[j]? = some t → args[j]? = some v → Value.okWide Tryd.prog W .any base t v := hval0
  have hW' := hW
  obtain ⟨p, q, hA0, hV0, rfl, hfz, hnd⟩ := hW
  have hA : DataW.TrodAll enc Tryd.prog W 0 (fun _ => true) true Tryd.f3.params.toList args.toList ds p := hA0
  rw [Tryd.params3] at hA hval
  obtain ⟨v0, vs0, d0, ds0, p0, q0, hargs, rfl, rfl, h0, r0⟩ := trodAll_cons hA
  obtain ⟨v1, vs1, d1, ds1, p1, q1, rfl, rfl, rfl, h1, r1⟩ := trodAll_cons r0
  obtain ⟨rfl, rfl, rfl⟩ := trodAll_nil r1
  obtain rfl : args = #[v0, v1] := by cases args; simp_all
  obtain ⟨rfl, rfl⟩ := trodVars_none hV0
  have k1 := h1
  obtain ⟨a0, rfl, rfl, rfl, w0⟩ := open_int Tryd.underlying3 (hval 0 3 v0 rfl rfl) h0
  obtain ⟨A, n, c, rfl⟩ : ∃ A n c, v1 = .slice A n c := by
    have hv := hval 1 22 v1 rfl rfl
    obtain ⟨fuel, hh⟩ := h1
    rcases DataW.trod_slice Tryd.underlying22 hh with ⟨hv', -⟩ | ⟨a', l', c', _, _, _, _, hv', -⟩
    · exact ⟨none, 0, 0, not_agg Tryd.underlying22 hv hv'⟩
    · exact ⟨some a', l', c', not_agg Tryd.underlying22 hv hv'⟩
  clear hA0 hval0
  refine (slotNil_any W a0 A n c).mono fun e W' ⟨he, hx⟩ => ?_
  subst he
  have bel : Below W.heap.size W W' := hx.below (Nat.le_refl _) (fun _ h => h.elim)
  have lt1 : ∀ x ∈ p1, x.block < W.heap.size := by obtain ⟨n, hn⟩ := k1; exact DataW.trod_lt n _ _ _ hn
  have m1 := Below.trod laidOut (by kernel_rfl) (of_decide_eq_true (by kernel_rfl)) k1 bel lt1
  exact ⟨_, rfl, _, _, _, [], _, [], hW', trodAll_mk1 (shut_bool Tryd.underlying4 _), (trodAll_cons_mk (shut_int Tryd.underlying3 w0) (trodAll_cons_mk m1 trodAll_mk0)), rfl, bel.frame _, fun h => by cases h⟩
theorem over : Rows.slotNilRow.holds Tryd.pinned (OpenSpec.ofChange Rows.slotNilSpec) :=
  OpenClaim.holds_of_wide 3 Tryd.f3 rfl rfl rfl rfl rfl rfl rfl ⟨rfl, rfl, rfl, rfl, rfl⟩ rfl rfl rfl rfl rfl (by kernel_rfl) Tryd.func3 (by kernel_rfl)
    (of_decide_eq_true (by kernel_rfl)) (by unfold Func.isWrapper; first | (rw [if_pos (by decide +kernel)]; kernel_rfl) | (rw [if_neg (by decide +kernel)]; exact ⟨rfl, rfl⟩))
    (fun os started H enc _ => lifted os started H enc)
end Go.Proofs.YtbgcelfmelpbeaaDoor.slotNil
namespace Go.Proofs.YtbgcelfmelpbeaaDoor
theorem slotNil_holds : Rows.SlotNilSaid := slotNil.over
theorem slotNil_card_holds : Rows.SlotNilCardSaid :=
  Claim7.holds_tied_plain_at .later [] [.data, .pinned] true (true, "5c7d9543992be1c6350eee55d456c3a3a22df793aa84b44dce8052e8eeade58e") false
    slotNil_holds (fun _ h => by cases h) (by kernel_rfl) (fun _ h => by cases h) slotNil_row_tie rfl ⟨rfl, rfl⟩ (by kernel_rfl) rfl
    (fun f fn hf hfn => by
      obtain rfl : f = 3 := Option.some.inj ((show Tryd.prog.funcNamed "hanaper/hanaperlaw14.SlotNil" = some 3 by kernel_rfl).symm.trans hf) |>.symm
      obtain rfl : fn = Tryd.f3 := (Option.some.inj (Tryd.func3.symm.trans hfn)).symm
      refine ⟨by kernel_rfl, fun j t ht => ?_⟩
      rw [Tryd.params3] at ht
      have hall : ((#[3, 22] : Array TypeId).toList.all fun t => !Tryd.prog.wantsStandIn t) = true := by kernel_rfl
      have := List.all_eq_true.1 hall t (List.mem_of_getElem? (by simpa using ht))
      exact (by simpa using this : Tryd.prog.wantsStandIn t = false))
    (by kernel_rfl)
#print axioms slotNil_card_holds
end Go.Proofs.YtbgcelfmelpbeaaDoor
