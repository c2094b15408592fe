/- source.Global. source.Origin. Whether files are few and short. -/
import Derived.Test.YtpekmohnjpbkgaaGreatDoorGroupL
import Derived.Test.YtpekmohnjpbkgaaGreatDoorGroupK
namespace Go.Proofs.YtpekmohnjpbkgaaGreatDoor
open Go Go.RowKit
set_option maxHeartbeats 1000000
set_option maxRecDepth 100000
attribute [local go_sem ↓] Go.wp_at_zero Go.wp_at_succ

theorem global7_any (l : List UInt8) (V : List SegV) (a : Option Addr) (cap : Nat) (c pos : Int) (hc : 0 ≤ c) (hc1 : c < 18446744073709551616) (hpm : pos ≤ 9223372036854775807) (w : World) (hl : l.length ≤ 1048576) (hV : V.length ≤ 65536) (hr : SegsAt w a V) :
    Calls Tryz.prog 29 #[.agg #[str l, .slice a V.length cap], .int .u64 c, .int .i64 pos] w fun e w' => e = .returned (.tuple #[.int .i64 (globalF ⟨l, V.map SegV.d⟩ c pos).1, .bool (globalF ⟨l, V.map SegV.d⟩ c pos).2]) ∧ Below w.heap.size w w' := by
  have k0 := Blk.new w #[str l, .slice a V.length cap] 29
  have b0 : Below w.heap.size w (w.alloc (.cells #[str l, .slice a V.length cap] 29)) := (Below.refl _ _).alloc (Nat.le_refl _) _
  have ck := scheck_any l V a cap _ hl hV (hr.below b0)
  by_cases hq : chkS ⟨l, V.map SegV.d⟩ = 0
  · by_cases hp : pos < 0
    · have hF : globalF ⟨l, V.map SegV.d⟩ c pos = (0, false) := by
        unfold globalF
        rw [if_pos (.inr hp)]
      rw [hF]
      rw [hq] at ck
      generalize V.length = len at *
      clear hq hF
      go_enter Tryz.func29, Tryz.ntmps29
      go_wp2_with fail
      refine ck.mono ?_
      rintro e w1 ⟨rfl, b1⟩
      go_wp2_with fail
      go_ret2
      exact ⟨rfl, b0.trans (b1.mono b0.size)⟩
    have hok := (chkS_ok hq).2
    have hF : globalF ⟨l, V.map SegV.d⟩ c pos = globalG l.length ((V.filter fun x => holdsB x.da.d c).map SegV.d) pos := by
      unfold globalF
      rw [if_neg (by simp [hq]; omega), filter_map_d]
      rfl
    have hsel := fun w' hr' => selected_any l V a cap c hc hc1 w' hV hr'
    rw [hq] at ck
    rw [hF]
    have hok2 : ∀ x ∈ (V.filter fun x => holdsB x.da.d c), SegOk l.length x.d := fun x hx => hok x.d (List.mem_map_of_mem (List.mem_filter.1 hx).1)
    have hlen2 : (V.filter fun x => holdsB x.da.d c).length ≤ 65536 := Nat.le_trans (List.length_filter_le _ _) hV
    generalize (V.filter fun x => holdsB x.da.d c) = F at *
    generalize hg : globalG l.length (F.map SegV.d) pos = g
    have HG := Lib.hid hg
    have OK := Lib.hid hok2
    clear hF hq hok hok2 hg
    have hp0 : 0 ≤ pos := by omega
    clear hp
    generalize V.length = len at *
    go_enter Tryz.func29, Tryz.ntmps29
    go_wp2_with fail
    refine ck.mono ?_
    rintro e w1 ⟨rfl, b1⟩
    have bw1 : Below w.heap.size w w1 := b0.trans (b1.mono b0.size)
    have k1 := k0.mod (Mod.of_below (S := fun _ => False) b1) (fun h => h)
    have e0 := k1.cell 0
    have e1 := k1.cell 1
    have hk1 := k1.lt
    simp at e0 e1
    have hs := hsel w1 (hr.below bw1)
    clear hsel ck
    go_wp2_with fail
    refine hs.mono ?_
    clear hs
    rintro e w2 ⟨aF, cF, rfl, hF, b2, -⟩
    have bw2 : Below w.heap.size w w2 := bw1.trans (b2.mono bw1.size)
    have k2 := k1.mod (Mod.of_below (S := fun _ => False) b2) (fun h => h)
    clear e0 e1
    generalize hn : F.length = lenF at *
    have HN := Lib.hid hn
    clear hn
    go_wp2_with fail
    go_loopg [22, 2, 9, 10] (lenF + 1) (fun k ct va u9 u10 wr => ∃ (i : Nat) (p : Int), i ≤ lenF ∧ k + i = lenF + 1 ∧ ct = .int .i64 i ∧ va = .int .i64 p ∧ 0 ≤ p ∧ p ≤ pos ∧ Hid (globalG l.length ((F.drop i).map SegV.d) p = g) ∧ Below w2.heap.size w2 wr)
    case atStart => exact ⟨0, pos, Nat.zero_le _, rfl, rfl, rfl, by omega, by omega, HG, Below.refl _ _⟩
    case round =>
      obtain ⟨i, p, hi, hk, rfl, rfl, p0, p1, HL, bel⟩ := hrel
      have bw := bw2.trans (bel.mono bw2.size)
      have k3 := k2.mod (Mod.of_below (S := fun _ => False) bel) (fun h => h)
      have e0 := k3.cell 0
      have e1 := k3.cell 1
      have hk3 := k3.lt
      simp at e0 e1
      by_cases hlt : i < lenF
      · obtain ⟨x, hx⟩ : ∃ x, F[i]? = some x := ⟨F[i]'(by have := HN.out; omega), List.getElem?_eq_getElem _⟩
        obtain ⟨hok, b, o, rfl, hb, x0, x1, x2, x3, x4, x5⟩ := (hF.below bel).at hx
        have so := OK.out x (List.mem_of_getElem? hx)
        have hdr := drop_of hx
        have hL2 : g = if x.till - x.fr ≤ p then globalG l.length ((F.drop (i + 1)).map SegV.d) (p - (x.till - x.fr)) else (x.fr + p, true) := by
          rw [← HL.out, hdr]; rfl
        have HL2 := Lib.hid hL2
        have i0 : (0 : Int) ≤ (i : Int) := by omega
        have i1 : (i : Int) < (lenF : Int) := by omega
        have s0 := so.f0
        have s1 := so.ft
        have s2 := so.tl
        clear hx hdr HL hL2 so
        obtain ⟨fr, till, file, at', ⟨d, da, dc⟩⟩ := x
        simp only [SegV.d] at *
        by_cases h1 : till - fr ≤ p
        · have hg := HL2.out
          rw [if_pos h1] at hg
          have HL3 := Lib.hid hg.symm
          clear hg HL2
          go_wp2_with fail
          go_roundg (lenF - i)
          case measure => omega
          case rel => exact ⟨i + 1, _, by omega, by omega, by go_num, rfl, by omega, by omega, HL3, bel.alloc bel.size _⟩
        · have hg := HL2.out
          rw [if_neg h1] at hg
          subst hg
          clear HL2 HG
          go_wp2_with fail
          go_ret2
          exact ⟨rfl, bw.alloc bw.size _⟩
      · have : i = lenF := by omega
        subst this
        have hd : F.drop i = [] := List.drop_of_length_le (by rw [HN.out]; exact Nat.le_refl _)
        have hcc : g = if 0 < p then (0, false) else ((l.length : Int), true) := by rw [← HL.out, hd]; rfl
        by_cases h1 : 0 < p
        · rw [if_pos h1] at hcc
          subst hcc
          clear HG HL
          go_wp2_with fail
          go_ret2
          exact ⟨rfl, bw⟩
        · rw [if_neg h1] at hcc
          subst hcc
          clear HG HL
          go_wp2_with fail
          go_ret2
          exact ⟨rfl, bw⟩
  · have hF : globalF ⟨l, V.map SegV.d⟩ c pos = (0, false) := by
      unfold globalF
      rw [if_pos (.inl hq)]
    rw [hF]
    have hq' : (chkS ⟨l, V.map SegV.d⟩ != 0) = true := by rw [bne_iff_ne]; exact hq
    generalize chkS ⟨l, V.map SegV.d⟩ = q at *
    generalize V.length = len at *
    clear hq hF
    go_enter Tryz.func29, Tryz.ntmps29
    go_wp2_with fail
    refine ck.mono ?_
    rintro e w1 ⟨rfl, b1⟩
    go_wp2_with fail
    go_ret2
    exact ⟨rfl, b0.trans (b1.mono b0.size)⟩
end Go.Proofs.YtpekmohnjpbkgaaGreatDoor

namespace Go.Proofs.YtpekmohnjpbkgaaGreatDoor
open Go Go.RowKit
set_option maxHeartbeats 1000000
set_option maxRecDepth 100000
attribute [local go_sem ↓] Go.wp_at_zero Go.wp_at_succ

theorem origin7_any (l : List UInt8) (V : List SegV) (a : Option Addr) (cap : Nat) (pos : Int) (w : World) (hl : l.length ≤ 1048576) (hV : V.length ≤ 65536) (hr : SegsAt w a V) :
    Calls Tryz.prog 31 #[.agg #[str l, .slice a V.length cap], .int .i64 pos] w fun e w' =>
      e = .returned (.tuple #[.int .i64 (originF ⟨l, V.map SegV.d⟩ pos).1, .int .i64 (originF ⟨l, V.map SegV.d⟩ pos).2.1, .bool (originF ⟨l, V.map SegV.d⟩ pos).2.2]) ∧ Below w.heap.size w w' := by
  have k0 := Blk.new w #[str l, .slice a V.length cap] 29
  have b0 : Below w.heap.size w (w.alloc (.cells #[str l, .slice a V.length cap] 29)) := (Below.refl _ _).alloc (Nat.le_refl _) _
  have ck := scheck_any l V a cap _ hl hV (hr.below b0)
  by_cases hq : chkS ⟨l, V.map SegV.d⟩ = 0
  · rw [hq] at ck
    have e0 := k0.cell 0
    simp at e0
    by_cases hp : pos < 0 ∨ (l.length : Int) ≤ pos
    · have hF : originF ⟨l, V.map SegV.d⟩ pos = (0, 0, false) := by
        unfold originF
        rw [if_pos (.inr hp)]
      rw [hF]
      generalize V.length = len at *
      clear hq hF
      rcases hp with hp | hp
      · go_enter Tryz.func31, Tryz.ntmps31
        go_wp2_with fail
        refine ck.mono ?_
        rintro e w1 ⟨rfl, b1⟩
        go_wp2_with fail
        go_ret3
        exact ⟨rfl, b0.trans (b1.mono b0.size)⟩
      · have hp0 : 0 ≤ pos := by omega
        go_enter Tryz.func31, Tryz.ntmps31
        go_wp2_with fail
        refine ck.mono ?_
        rintro e w1 ⟨rfl, b1⟩
        have k1 := k0.mod (Mod.of_below (S := fun _ => False) b1) (fun h => h)
        have e0 := k1.cell 0
        have hk1 := k1.lt
        simp at e0
        go_wp2_with fail
        go_ret3
        exact ⟨rfl, b0.trans (b1.mono b0.size)⟩
    have hok := (chkS_ok hq).2
    have hF : originF ⟨l, V.map SegV.d⟩ pos = originG pos (V.map SegV.d) := by
      unfold originF
      rw [if_neg (by simp [hq]; omega)]
    rw [hF]
    have hok2 : ∀ x ∈ V, SegOk l.length x.d := fun x hx => hok x.d (List.mem_map_of_mem hx)
    generalize hg : originG pos (V.map SegV.d) = g
    have HG := Lib.hid hg
    have OK := Lib.hid hok2
    clear hF hq hok hok2 hg
    have hp0 : 0 ≤ pos := by omega
    have hp1 : pos < l.length := by omega
    clear hp
    generalize hn : V.length = len at *
    have HN := Lib.hid hn
    clear hn
    go_enter Tryz.func31, Tryz.ntmps31
    go_wp2_with fail
    refine ck.mono ?_
    rintro e w1 ⟨rfl, b1⟩
    have bw1 : Below w.heap.size w w1 := b0.trans (b1.mono b0.size)
    have k1 := k0.mod (Mod.of_below (S := fun _ => False) b1) (fun h => h)
    have e0 := k1.cell 0
    have e1 := k1.cell 1
    have hk1 := k1.lt
    simp at e0 e1
    have hF := hr.below bw1
    clear ck
    go_wp2_with fail
    go_loopg [26, 8] (len + 1) (fun k ct u8 wr => ∃ (i : Nat), i ≤ len ∧ k + i = len + 1 ∧ ct = .int .i64 i ∧ Hid (originG pos ((V.drop i).map SegV.d) = g) ∧ Below w1.heap.size w1 wr)
    case atStart => exact ⟨0, Nat.zero_le _, rfl, rfl, HG, Below.refl _ _⟩
    case round =>
      obtain ⟨i, hi, hk, rfl, HL, bel⟩ := hrel
      have bw := bw1.trans (bel.mono bw1.size)
      by_cases hlt : i < len
      · obtain ⟨x, hx⟩ : ∃ x, V[i]? = some x := ⟨V[i]'(by have := HN.out; omega), List.getElem?_eq_getElem _⟩
        obtain ⟨hok, b, o, rfl, hb, x0, x1, x2, x3, x4, x5⟩ := (hF.below bel).at hx
        have so := OK.out x (List.mem_of_getElem? hx)
        have hdr := drop_of hx
        have hL2 : g = if pos < x.till then (x.file, x.at' + pos - x.fr, true) else originG pos ((V.drop (i + 1)).map SegV.d) := by
          rw [← HL.out, hdr]; rfl
        have HL2 := Lib.hid hL2
        have i0 : (0 : Int) ≤ (i : Int) := by omega
        have i1 : (i : Int) < (len : Int) := by omega
        have s0 := so.f0
        have s1 := so.ft
        have s2 := so.tl
        have s3 := so.a0
        have s4 := so.a1
        clear hx hdr HL hL2 so
        obtain ⟨fr, till, file, at', ⟨d, da, dc⟩⟩ := x
        simp only [SegV.d] at *
        by_cases h1 : pos < till
        · have hg := HL2.out
          rw [if_pos h1] at hg
          subst hg
          clear HL2 HG
          go_wp2_with fail
          go_quiet (fail)
          go_wp2_with fail
          go_ret3
          exact ⟨rfl, bdrewN (bw.alloc bw.size _) _⟩
        · have hg := HL2.out
          rw [if_neg h1] at hg
          have HL3 := Lib.hid hg.symm
          clear hg HL2
          go_wp2_with fail
          go_roundg (len - i)
          case measure => omega
          case rel => exact ⟨i + 1, by omega, by omega, by go_num, HL3, bel.alloc bel.size _⟩
      · have : i = len := by omega
        subst this
        have hd : V.drop i = [] := List.drop_of_length_le (by rw [HN.out]; exact Nat.le_refl _)
        have hcc : g = (0, 0, false) := by rw [← HL.out, hd]; rfl
        subst hcc
        clear HG HL
        go_wp2_with fail
        go_ret3
        exact ⟨rfl, bw⟩
  · have hF : originF ⟨l, V.map SegV.d⟩ pos = (0, 0, false) := by
      unfold originF
      rw [if_pos (.inl hq)]
    rw [hF]
    have hq' : (chkS ⟨l, V.map SegV.d⟩ != 0) = true := by rw [bne_iff_ne]; exact hq
    generalize chkS ⟨l, V.map SegV.d⟩ = q at *
    generalize V.length = len at *
    clear hq hF
    go_enter Tryz.func31, Tryz.ntmps31
    go_wp2_with fail
    refine ck.mono ?_
    rintro e w1 ⟨rfl, b1⟩
    go_wp2_with fail
    go_ret3
    exact ⟨rfl, b0.trans (b1.mono b0.size)⟩
end Go.Proofs.YtpekmohnjpbkgaaGreatDoor

namespace Go.Proofs.YtpekmohnjpbkgaaGreatDoor
open Go Go.RowKit
set_option maxHeartbeats 1000000
set_option maxRecDepth 100000
attribute [local go_sem ↓] Go.wp_at_zero Go.wp_at_succ

def shortF (f : Fl) : Bool := decide (f.text.length ≤ 300) && decide (f.name.length ≤ 20)
def fewF (fs : List Fl) : Bool := decide (fs.length ≤ 3) && fs.all shortF

theorem few_any (fs : List Fl) (hl : fs.length ≤ 1099511627776000) (a : Option Addr) (cap : Nat) (w : World) (hr : Rd w a (rowCells Fl.cells fs)) :
    Calls Tryz.prog 23 #[.slice a fs.length cap] w fun e w' => e = .returned (.bool (fewF fs)) ∧ Below w.heap.size w w' := by
  generalize hF : fewF fs = r
  have HF := Lib.hid hF
  clear hF
  generalize hn : fs.length = len at *
  have HN := Lib.hid hn
  clear hn
  by_cases h3 : 3 < len
  · have hF : r = false := by rw [← HF.out]; unfold fewF; rw [HN.out, decide_eq_false (by omega)]; rfl
    subst hF
    clear HF HN
    go_enter Tryz.func23, Tryz.ntmps23
    go_wp2_with fail
    go_ret
    exact ⟨rfl, Below.refl _ _⟩
  · have hF : r = fs.all shortF := by rw [← HF.out]; unfold fewF; rw [HN.out, decide_eq_true (by omega)]; rfl
    have HF2 := Lib.hid hF
    clear HF hF
    have hi3 : ¬ (3 < (len : Int)) := by omega
    go_enter Tryz.func23, Tryz.ntmps23
    go_wp2_with fail
    go_loopw [3] (fun ct wr => ∃ i n : Nat, i ≤ len ∧ ct = .int .i64 i ∧ Hid ((fs.drop i).all shortF = r) ∧ wr = w.drewN n) (fun ct _ => len - (intOf ct).toNat)
    case atStart => exact ⟨0, 0, Nat.zero_le _, rfl, HF2.out.symm, rfl⟩
    case round =>
      obtain ⟨i, n, hi, rfl, HA, rfl⟩ := hrel
      by_cases hlt : i < len
      · obtain ⟨x, hx⟩ : ∃ x, fs[i]? = some x := ⟨fs[i]'(by have := HN.out; omega), List.getElem?_eq_getElem _⟩
        obtain ⟨b1, o1, rfl, hb1, xc⟩ := hr.elem (c := 2) (fun _ => rfl) (by omega) hx
        have x0 := xc 0 (by omega)
        have x1 := xc 1 (by omega)
        simp only [Fl.cells, List.getElem?_cons_zero, List.getElem?_cons_succ, Nat.add_zero] at x0 x1
        have hd : fs.drop i = x :: fs.drop (i + 1) := drop_of hx
        have HA2 : Hid ((shortF x && (fs.drop (i + 1)).all shortF) = r) := Lib.hid (by rw [← HA.out, hd]; rfl)
        clear hx hd xc HA
        have i0 : (0 : Int) ≤ (i : Int) := by omega
        have i1 : (i : Int) < (len : Int) := by omega
        by_cases ht : 300 < x.text.length
        · have hr : r = false := by rw [← HA2.out]; unfold shortF; rw [decide_eq_false (by omega)]; rfl
          subst hr
          have ht' : 300 < (x.text.length : Int) := by omega
          go_wp2_with fail
          go_ret
          exact ⟨rfl, bdrewN (Below.refl _ _) _⟩
        · have ht' : ¬ 300 < (x.text.length : Int) := by omega
          by_cases hm : 20 < x.name.length
          · have hr : r = false := by rw [← HA2.out]; unfold shortF; rw [decide_eq_false (show ¬ x.name.length ≤ 20 by omega)]; simp
            subst hr
            have hm' : 20 < (x.name.length : Int) := by omega
            go_wp2_with fail
            go_ret
            exact ⟨rfl, bdrewN (Below.refl _ _) _⟩
          · have hm' : ¬ 20 < (x.name.length : Int) := by omega
            have HA3 : Hid ((fs.drop (i + 1)).all shortF = r) := Lib.hid (by rw [← HA2.out]; unfold shortF; rw [decide_eq_true (show x.name.length ≤ 20 by omega), decide_eq_true (show x.text.length ≤ 300 by omega)]; rfl)
            go_wp2_with fail
            go_roundw
            case rel => exact ⟨i + 1, n, by omega, by go_num, HA3, rfl⟩
            case measure => simp [intOf]; omega
      · have : i = len := by omega
        subst this
        have hr : r = true := by rw [← HA.out, List.drop_of_length_le (by rw [HN.out]; exact Nat.le_refl _)]; rfl
        subst hr
        go_wp2_with fail
        go_ret
        exact ⟨rfl, bdrewN (Below.refl _ _) _⟩
end Go.Proofs.YtpekmohnjpbkgaaGreatDoor
