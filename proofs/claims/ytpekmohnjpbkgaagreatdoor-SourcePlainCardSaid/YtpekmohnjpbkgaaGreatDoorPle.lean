/- koinelaw07.SourcePlain answers true at every input that can be read, whatever Go leaves open, and leaves its arguments as they were: the tied card. -/
import Derived.Test.YtpekmohnjpbkgaaGreatDoorPld
namespace Go.Proofs.YtpekmohnjpbkgaaGreatDoor
open Go.ChangeShapes Go.WideShapes Go.ChangeAt Go.RowKit
set_option maxRecDepth 100000
set_option maxHeartbeats 4000000

theorem plain_named : Tryz.prog.funcNamed "koine/koinelaw07.SourcePlain" = some 13 := by kernel_rfl
theorem plain_inst : Tryz.f13.isInstance Tryz.pinned.checked.prog Rows.sourcePlainRow.origin Rows.sourcePlainRow.targs := of_decide_eq_true (by kernel_rfl)
theorem plain_wrap : Tryz.f13.isWrapper Tryz.pinned.checked.prog Rows.sourcePlainRow.wrapper Rows.sourcePlainRow.mainSum := by
  unfold Func.isWrapper; first | (rw [if_pos (by decide +kernel)]; kernel_rfl) | (rw [if_neg (by decide +kernel)]; exact ⟨rfl, rfl⟩)
theorem plain_said : Rows.SourcePlainSaid :=
  OpenClaim.holds_of_cond 13 Tryz.f13 rfl rfl rfl rfl rfl rfl rfl ⟨rfl, rfl, rfl, rfl, rfl⟩ rfl rfl rfl rfl rfl plain_named Tryz.func13 plain_facts plain_inst plain_wrap
    (fun os started H enc _ F => by rw [OpenClaim.pre_eq_preRow]; exact plain_lifted os started H enc F)

theorem plain_looks : true = Tryz.pinned.checked.prog.looks [] := by kernel_rfl
theorem plain_no (f : FuncId) (fn : Func) (hf : Tryz.pinned.checked.prog.funcNamed "koine/koinelaw07.SourcePlain" = some f) (hfn : Tryz.pinned.checked.prog.funcs[f]? = some fn) :
    true = Tryz.pinned.checked.prog.looks [] ∧ ∀ (j : Nat) t, fn.params[j]? = some t → Tryz.pinned.checked.prog.wantsStandIn t = false := by
  obtain rfl : f = 13 := Option.some.inj (plain_named.symm.trans hf) |>.symm
  obtain rfl : fn = Tryz.f13 := (Option.some.inj (Tryz.func13.symm.trans hfn)).symm
  refine ⟨plain_looks, fun j t ht => ?_⟩
  have hm : t ∈ (#[24, 46] : Array TypeId) := Array.mem_of_getElem? (show (#[24, 46] : Array TypeId)[j]? = some t from ht)
  simp only [List.mem_toArray, List.mem_cons, List.not_mem_nil, or_false] at hm
  rcases hm with rfl | rfl
  · exact (show Tryz.prog.wantsStandIn 24 = false by kernel_rfl)
  · exact (show Tryz.prog.wantsStandIn 46 = false by kernel_rfl)

theorem plain_wf : Rows.sourcePlainRow.wfByText (OpenSpec.ofChange Rows.sourcePlainSpec) = true := by kernel_rfl
theorem plain_main : Tryz.pinned.checked.prog.mainIs = some (true, "1330eeb1cf345762fd6a421115823cb7f3376628af251b469ec78a134a9b7eec".toList) := by kernel_rfl
theorem plain_goes : false = Rows.sourcePlainRow.goesBy Tryz.pinned.checked.prog := by kernel_rfl

/-- The card of koinelaw07.SourcePlain. -/
theorem sourcePlain_card : Rows.SourcePlainCardSaid :=
  Claim7.holds_tied_plain_at .later [] _ _ _ _ plain_said (fun _ h => by cases h) plain_wf (fun _ h => by cases h) sourcePlain_row_tie rfl ⟨rfl, rfl⟩ plain_main rfl plain_no plain_goes
end Go.Proofs.YtpekmohnjpbkgaaGreatDoor
