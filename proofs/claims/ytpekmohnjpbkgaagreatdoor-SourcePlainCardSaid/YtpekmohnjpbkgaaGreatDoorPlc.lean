/- The law koinelaw07.SourcePlain answers true at every input that can be read, whatever the tape answers, and leaves the input as it was; the two tables of package utf8 hold what the program's text lays. -/
import Derived.Test.YtpekmohnjpbkgaaGreatDoorLpl
import Derived.Test.YtpekmohnjpbkgaaGreatDoorGroupT
namespace Go.Proofs.YtpekmohnjpbkgaaGreatDoor
open Go.ChangeShapes Go.WideShapes Go.ChangeAt Go.RowKit
set_option maxRecDepth 100000
set_option maxHeartbeats 4000000

theorem plain_contract (H : Type) (enc : TypeId × Value → H) (W : World) (base : Nat) (args : Array Value) (ds gs : List (DataW H)) (before : List MemPlace)
    (hval : ∀ (j : Nat) t v, Tryz.f13.params[j]? = some t → args[j]? = some v → Value.okWide Tryz.prog W .any base t v)
    (hW : DataW.Whole enc Tryz.prog Tryz.f13.params.toList Rows.sourcePlainSpec.vars false W args.toList ds gs before) :
    Calls Tryz.prog 13 args W fun e W' => ∃ v, e = .returned v ∧ Rows.sourcePlainSpec.post enc Tryz.prog Tryz.f13 false true false false W args v W' := by
  have hW' := hW
  obtain ⟨p, q, hA0, hV, rfl, hfz, hnd⟩ := hW
  have hA : DataW.TrodAll enc Tryz.prog W 0 (fun _ => true) true [24, 46] args.toList ds p := hA0
  have hval' : ∀ (j : Nat) t v, (#[24, 46] : Array TypeId)[j]? = some t → args[j]? = some v → Value.okWide Tryz.prog W .any base t v := hval
  obtain ⟨v0, vs0, d0, ds0, p0, q0, hargs, rfl, rfl, h0, r0⟩ := trodAll_cons hA
  obtain ⟨v1, vs1, d1, ds1, p1, q1, rfl, rfl, rfl, h1, r1⟩ := trodAll_cons r0
  obtain ⟨rfl, rfl, rfl⟩ := trodAll_nil r1
  obtain rfl : args = #[v0, v1] := by cases args; simp_all
  obtain ⟨rfl, rfl⟩ := trodVars_none hV
  obtain ⟨c, rfl, rfl, rfl, hc⟩ := open_int (k := .u64) (by kernel_rfl) (hval' 1 46 v1 rfl rfl) h1
  obtain ⟨a0, len, cap, rfl⟩ := okWide_slice (t := 24) (e := 9) (by kernel_rfl) (hval' 0 24 v0 rfl rfl)
  obtain ⟨L, hlen, hL, hm, -⟩ := strs_rd (t := 24) (by kernel_rfl) h0
  subst hlen
  have hc2 : 0 ≤ c ∧ c < 18446744073709551616 := by
    have h1 : IntKind.u64.min ≤ c ∧ c ≤ IntKind.u64.max := by simpa [Lit.wf] using hc
    have e1 : IntKind.u64.min = 0 := rfl
    have e2 : IntKind.u64.max = 18446744073709551615 := rfl
    omega
  refine (sourcePlain_any L c hc2.1 hc2.2 a0 cap W hL).mono ?_
  rintro e W' ⟨rfl, hb⟩
  refine ⟨_, rfl, law_post rfl (by kernel_rfl) (show ∀ t ∈ [24, 46], _ from ?_) hW' hb rfl⟩
  intro t ht
  simp only [List.mem_cons, List.not_mem_nil, or_false] at ht
  rcases ht with rfl | rfl
  · exact ⟨by kernel_rfl, of_decide_eq_true (by kernel_rfl)⟩
  · exact ⟨by kernel_rfl, of_decide_eq_true (by kernel_rfl)⟩

/-- A world for the witness: the settled one, the two tables holding what the row lists. -/
noncomputable def layFirst : Obj → Obj
  | .cells _ t frozen => .cells ((Go.Pinned.utf8FirstZ.map fun (z : Nat) => Value.int .u8 (z : Int)).toArray) t frozen
  | o => o
noncomputable def layRanges : Obj → Obj
  | .cells _ t frozen => .cells (([128, 191, 160, 191, 128, 159, 144, 191, 128, 143, 0, 0, 0, 0, 0, 0, 0, 0, 0, 0, 0, 0, 0, 0, 0, 0, 0, 0, 0, 0, 0, 0] : List Int).map (Value.int .u8)).toArray t frozen
  | o => o
noncomputable def laidWorld (os : Os) : World :=
  { World.holding Tryz.prog os ⟨#[], #[], []⟩ with heap := ((World.holding Tryz.prog os ⟨#[], #[], []⟩).heap.modify 1 layFirst).modify 2 layRanges }

theorem plain_laid (os : Os) : laidMet Tryz.prog Rows.sourcePlainRow.laid ((laidWorld os).forCall (fun _ _ => 0) ⟨#[], #[.slice none 0 0, .int .u64 0], []⟩).memory :=
  laidMet_of_run' 8 (by kernel_rfl) (by kernel_rfl)
theorem plain_reads (os : Os) {H : Type} (enc : TypeId × Value → H) : ∃ d places, DataW.whole enc Tryz.prog ((laidWorld os).forCall (fun _ _ => 0) ⟨#[], #[.slice none 0 0, .int .u64 0], []⟩).memory Tryz.f13.params.toList Rows.sourcePlainSpec.vars false #[.slice none 0 0, .int .u64 0].toList 8 = some (d, [], places) :=
  ⟨[.nil, .lit (.int .u64 0)], [], by kernel_rfl⟩

theorem plain_lifted (os : Os) (started : os.Started) (H : Type) (enc : TypeId × Value → H) (F : Stop.Interp) :
    ReturnsInHanded {} Tryz.checked os 13 .any ((OpenSpec.ofChange Rows.sourcePlainSpec).preRow enc Tryz.prog Tryz.f13 Rows.sourcePlainRow.domain false Rows.sourcePlainRow.laid) (((OpenSpec.ofChange Rows.sourcePlainSpec).at F).post enc Tryz.prog Tryz.f13 false true false false) := by
  obtain ⟨d, places, hx⟩ := plain_reads os enc
  refine returnsInHanded_of_row (C := Tryz.checked) (s := OpenSpec.ofChange Rows.sourcePlainSpec) lawOwn started (by kernel_rfl) Tryz.func13
    (witness_row_at (enc := enc) (C := Tryz.checked) false (laidWorld os) #[.slice none 0 0, .int .u64 0] rfl (by kernel_rfl) (by kernel_rfl) (by kernel_rfl)
      (OpenSpec.preRow_of_cond 8 hx (by kernel_rfl) (fun k hk => by cases hk) (by kernel_rfl) (plain_laid os))) ?_
  intro W base args ds gs before hval hW _ _ _ _ _ _
  exact plain_contract H enc W base args ds gs before hval hW
end Go.Proofs.YtpekmohnjpbkgaaGreatDoor
