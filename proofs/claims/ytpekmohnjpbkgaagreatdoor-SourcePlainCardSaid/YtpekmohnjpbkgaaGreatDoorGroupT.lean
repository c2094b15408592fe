/- From a contract to a law's row: the call answers true, below the heap's old size nothing has turned. Arguments of a law, opened: rows of strings, rows of files. -/
import Derived.Test.YtpekmohnjpbkgaaGreatDoorGroupA
import Derived.Test.YtpekmohnjpbkgaaGreatDoorCards
import Derived.Test.YtpekmohnjpbkgaaGreatDoorTie
import Derived.WalkKit
import Derived.ProofKit
import Derived.OpenShut
import Derived.Carry
import Derived.Deep.DeepHandedRow
import Derived.Lib.LaidTab
import Derived.Test.YtpekmohnjpbkgaaGreatDoorGroupK
import Derived.Deep.Strs
import Derived.Deep.SlicePairs
namespace Go.Proofs.YtpekmohnjpbkgaaGreatDoor
open Go.ChangeShapes Go.WideShapes Go.ChangeAt Go.RowKit

theorem lawOwn : ownKnob Tryz.prog.godebug = none := by kernel_rfl
theorem lawLaid : laidOutB Tryz.prog = true := by kernel_rfl

/-- Arguments read as they did. -/
theorem args_below {H : Type} {enc : TypeId × Value → H} {W W' : World} (hb : Below W.heap.size W W') : ∀ {ts : List TypeId} {vs : List Value} {ds : List (DataW H)} {ps : List MemPlace}, (∀ t ∈ ts, Tryz.prog.readableRec t = true ∧ t < Tryz.prog.types.size) →
    DataW.TrodAll enc Tryz.prog W 0 (fun _ => true) true ts vs ds ps → (∀ x ∈ ps, x.block < W.heap.size) → DataW.TrodAll enc Tryz.prog W' 0 (fun b => decide (b < W.heap.size)) true ts vs ds ps
  | [], _, _, _, _, h, _ => by
    obtain ⟨rfl, rfl, rfl⟩ := trodAll_nil h
    exact trodAll_mk0
  | t :: ts, _, _, _, ht, h, hp => by
    obtain ⟨v, vs1, d, ds1, a, b, rfl, rfl, rfl, h1, h2⟩ := trodAll_cons h
    have h0 := ht t (by simp)
    exact trodAll_cons_mk (Below.trod lawLaid h0.1 h0.2 h1 hb (fun x hx => hp x (by simp [hx]))) (args_below hb (fun u hu => ht u (by simp [hu])) h2 (fun x hx => hp x (by simp [hx])))

theorem law_post {H : Type} {enc : TypeId × Value → H} {f : Func} {s : ChangeSpec} {apart : Bool} {W W' : World} {args : Array Value} {ds gs : List (DataW H)} {before : List MemPlace} (hv : s.vars = []) (hrt : f.resultTypes = #[4])
    (hp : ∀ t ∈ f.params.toList, Tryz.prog.readableRec t = true ∧ t < Tryz.prog.types.size) (hW : DataW.Whole enc Tryz.prog f.params.toList s.vars apart W args.toList ds gs before) (hb : Below W.heap.size W W')
    (hs : s.fn H (ds ++ gs) = { results := [.lit (.bool true)], args := ds }) : s.post enc Tryz.prog f apart true false false W args (.bool true) W' := by
  have hW' := hW
  obtain ⟨p, q, hA, hV, rfl, hfz, hnd⟩ := hW
  rw [hv] at hV
  obtain ⟨rfl, rfl⟩ := trodVars_none hV
  have hlt := hW'.lt
  refine ⟨ds, [], p ++ [], [], p, [], hW', ?_, ?_, ?_, ?_, fun h => by cases h⟩
  · rw [hs, hrt]
    exact trodAll_cons_mk (shut_bool Tryz.underlying4 _) trodAll_mk0
  · rw [hs]
    exact args_below hb hp hA (fun x hx => hlt x (by simp [hx]))
  · rw [hs, hv]
    exact rfl
  · exact hb.frame _
end Go.Proofs.YtpekmohnjpbkgaaGreatDoor

namespace Go.Proofs.YtpekmohnjpbkgaaGreatDoor
open Go.ChangeShapes Go.WideShapes Go.ChangeAt Go.RowKit Go.Deep
set_option maxRecDepth 100000

theorem cells9 : Tryz.prog.cellsOf 9 = 1 := by kernel_rfl
theorem cells38 : Tryz.prog.cellsOf 38 = 2 := by kernel_rfl

theorem str_of (s : ByteArray) : str s.data.toList = .string s := by
  cases s; rfl

/-- A row of strings. -/
theorem strs_rd {H : Type} {enc : TypeId × Value → H} {W : World} {t : TypeId} (ht : Tryz.prog.underlying t = some (.slice 9)) {a0 : Option Addr} {len cap : Nat} {d : DataW H} {ps : List MemPlace} (h : DataW.Trod enc Tryz.prog W 0 (fun _ => true) true t (.slice a0 len cap) d ps) :
    ∃ L : List (List UInt8), L.length = len ∧ Rd W a0 (L.map str) ∧ len ≤ maxLen ∧ ∀ s ∈ L, s.length ≤ maxLen := by
  obtain ⟨fuel, hf⟩ := h
  rcases open_strs ht Tryz.underlying9 cells9 hf with ⟨hcs, hx⟩ | ⟨a, len', cap', m, Sx, hcs, _, hl, hm, hmm, hx, hcell⟩
  · simp [Value.cells] at hcs
    obtain ⟨rfl, rfl, rfl⟩ := hcs
    exact ⟨[], rfl, Rd.nil _ _, Nat.zero_le _, fun s hs => by cases hs⟩
  · simp [Value.cells] at hcs
    obtain ⟨rfl, rfl, rfl⟩ := hcs
    simp only [if_true] at hmm
    subst hmm
    obtain ⟨b, off, spot⟩ := a
    refine ⟨(List.range len).map fun i => (Sx i).data.toList, by simp, fun j u hj => ?_, Nat.le_trans hl hm, fun s hs => ?_⟩
    · rw [List.map_map, List.getElem?_map] at hj
      by_cases hlt : j < len
      · rw [List.getElem?_range hlt] at hj
        simp only [Option.map_some, Function.comp, Option.some.injEq] at hj
        have h0 := (hcell 0 (by omega)).1
        have hspot : spot = none := by simpa [Addr.add] using World.cell?_spot h0
        subst hspot
        have hc := (hcell j (by omega)).1
        rw [add_plain] at hc
        rw [str_of] at hj
        rw [hj] at hc
        exact ⟨b, off, rfl, lt_of_cell hc, hc⟩
      · rw [List.getElem?_eq_none (by simp; omega)] at hj
        cases hj
    · obtain ⟨i, hi, rfl⟩ := List.mem_map.1 hs
      have := (hcell i (by have := List.mem_range.1 hi; omega)).2
      show (Sx i).data.toList.length ≤ maxLen
      rw [Array.length_toList]
      exact this

/-- A row of files. -/
theorem files_rd {H : Type} {enc : TypeId × Value → H} {W : World} {a0 : Option Addr} {len cap : Nat} {d : DataW H} {ps : List MemPlace} (h : DataW.Trod enc Tryz.prog W 0 (fun _ => true) true 22 (.slice a0 len cap) d ps) :
    ∃ F : List Fl, F.length = len ∧ Rd W a0 (rowCells Fl.cells F) ∧ len ≤ maxLen := by
  obtain ⟨fuel, hf⟩ := h
  rcases open_slice_pairs Tryz.underlying22 Tryz.underlying38 cells38 rfl rfl cells9 cells9 hf with ⟨hcs, hx⟩ | ⟨a, len', cap', m, n, V0, V1, D0, D1, P0, P1, hcs, _, hl, hm, hmm, hx, hcell⟩
  · simp [Value.cells] at hcs
    obtain ⟨rfl, rfl, rfl⟩ := hcs
    exact ⟨[], rfl, Rd.nil _ _, Nat.zero_le _⟩
  · simp [Value.cells] at hcs
    obtain ⟨rfl, rfl, rfl⟩ := hcs
    simp only [if_true] at hmm
    subst hmm
    obtain ⟨b, off, spot⟩ := a
    have each : ∀ i, i < m → ∃ f : Fl, V0 i = str f.name ∧ V1 i = str f.text := fun i hi => by
      obtain ⟨_, _, h2, h3⟩ := hcell i hi
      obtain ⟨s0, e0, _, _⟩ := DataW.trod_string Tryz.underlying9 h2
      obtain ⟨s1, e1, _, _⟩ := DataW.trod_string Tryz.underlying9 h3
      refine ⟨⟨s0.data.toList, s1.data.toList⟩, ?_, ?_⟩
      · simp only; rw [str_of]; simpa using e0
      · simp only; rw [str_of]; simpa using e1
    have hne : Inhabited Fl := ⟨⟨[], []⟩⟩
    obtain ⟨Fx, hF⟩ := choose_lt each
    refine ⟨(List.range len).map Fx, by simp, fun j u hj => ?_, Nat.le_trans hl hm⟩
    have hkey : (rowCells Fl.cells ((List.range len).map Fx))[j / 2 * 2 + j % 2]? = _ := rowCells_get (c := 2) (fun _ => rfl) _ (j / 2) (j % 2) (Nat.mod_lt _ (by omega))
    rw [show j / 2 * 2 + j % 2 = j by omega, hj, List.getElem?_map] at hkey
    by_cases hlt : j / 2 < len
    · rw [List.getElem?_range hlt] at hkey
      simp only [Option.map_some, Option.bind_some] at hkey
      have h0 := (hcell 0 (by omega)).1
      have hspot : spot = none := by simpa [Addr.add] using World.cell?_spot h0
      subst hspot
      obtain ⟨c0, c1, _, _⟩ := hcell (j / 2) (by omega)
      rw [add_plain] at c0 c1
      rw [(hF (j / 2) (by omega)).1] at c0
      rw [(hF (j / 2) (by omega)).2] at c1
      have hmod : j % 2 = 0 ∨ j % 2 = 1 := by omega
      rcases hmod with h2 | h2
      · rw [h2] at hkey
        simp only [Fl.cells, List.getElem?_cons_zero, Option.some.injEq] at hkey
        rw [← hkey] at c0
        exact ⟨b, off, rfl, lt_of_cell c0, by rw [show off + j = off + j / 2 * 2 by omega]; exact c0⟩
      · rw [h2] at hkey
        simp only [Fl.cells, List.getElem?_cons_succ, List.getElem?_cons_zero, Option.some.injEq] at hkey
        rw [← hkey] at c1
        exact ⟨b, off, rfl, lt_of_cell c1, by rw [show off + j = off + (j / 2 * 2 + 1) by omega]; exact c1⟩
    · rw [List.getElem?_eq_none (by simp; omega)] at hkey
      cases hkey
end Go.Proofs.YtpekmohnjpbkgaaGreatDoor
