/- source.checkFiles. source.Read: the deferred closure. -/
import Derived.Test.YtpekmohnjpbkgaaGreatDoorGroupM
import Derived.Deep.DeepCutAuto
import Derived.Test.YtpekmohnjpbkgaaGreatDoorGroupK
import Derived.Defers
import Derived.Recover
namespace Go.Proofs.YtpekmohnjpbkgaaGreatDoor
open Go Go.RowKit
set_option maxHeartbeats 4000000
set_option maxRecDepth 100000
attribute [local go_sem ↓] Go.wp_at_zero Go.wp_at_succ

theorem filesF_bad {f : Fl} {fs : List Fl} {i : Int} {seen : List (List UInt8 × Bool)} (h : fileBad seen f = true) : filesF (f :: fs) i seen = ⟨70, i, 0⟩ := by simp [filesF, h]
theorem filesF_long {f : Fl} {fs : List Fl} {i : Int} {seen : List (List UInt8 × Bool)} (h : fileBad seen f = false) (hl : 1048576 < f.text.length) : filesF (f :: fs) i seen = ⟨2, i, 0⟩ := by simp [filesF, h, hl]
theorem filesF_next {f : Fl} {fs : List Fl} {i : Int} {seen : List (List UInt8 × Bool)} (h : fileBad seen f = false) (hl : ¬ 1048576 < f.text.length) : filesF (f :: fs) i seen = filesF fs (i + 1) (aset seen f.name true) := by simp [filesF, h, hl]

/-- What is wrong with a file but for the bytes of its name. -/
def headBad (seen : List (List UInt8 × Bool)) (f : Fl) : Bool := decide (f.name = []) || ((aget seen f.name).getD false || (decide (f.text ≠ []) && decide (f.text.getLast? ≠ some 10)))
theorem fileBad_eq (seen : List (List UInt8 × Bool)) (f : Fl) : fileBad seen f = (headBad seen f || f.name.any byteBad) := by
  unfold fileBad headBad
  cases decide (f.name = []) <;> cases (aget seen f.name).getD false <;> cases (decide (f.text ≠ []) && decide (f.text.getLast? ≠ some 10)) <;> rfl

theorem checkFiles_any (fs : List Fl) (hn : ∀ f ∈ fs, f.name.length ≤ 1099511627776 ∧ f.text.length ≤ 1099511627776) (hl : fs.length ≤ 1099511627776) (a : Option Addr) (cap : Nat) (w : World) (hr : Rd w a (rowCells Fl.cells fs)) :
    Calls Tryz.prog 71 #[.slice a fs.length cap] w fun e w' => e = .returned (.agg #[.int .i64 (filesR fs).e, .int .i64 (filesR fs).file, .int .i64 (filesR fs).line]) ∧ Below w.heap.size w w' := by
  have hmm := @run_makeMap Tryz.prog
  have k0 := Blk.new w #[.int .i64 0, .int .i64 0, .int .i64 0] 32
  have b0 : Below w.heap.size w (w.alloc (.cells #[.int .i64 0, .int .i64 0, .int .i64 0] 32)) := (Below.refl _ _).alloc (Nat.le_refl _) _
  generalize hP : filesR fs = P
  have HP := Lib.hid hP
  clear hP
  generalize hlen : fs.length = len at *
  have HN := Lib.hid hlen
  clear hlen
  by_cases h256 : 256 < len
  · have hP : P = ⟨2, -1, 0⟩ := by rw [← HP.out]; unfold filesR; rw [if_pos (by rw [HN.out]; exact h256)]
    subst hP
    clear HP HN
    go_enter Tryz.func71, Tryz.ntmps71
    go_wp2_with fail
    exact bodyPost_ret (v := .agg #[.int .i64 2, .int .i64 (-1), .int .i64 0]) (by simp [results, Tryz.results71, go_sem]) rfl ⟨rfl, (Below.refl _ _).alloc (Nat.le_refl _) _⟩
  · have hP : P = filesF fs 0 [] := by rw [← HP.out]; unfold filesR; rw [if_neg (by rw [HN.out]; exact h256)]
    have HP2 := Lib.hid hP
    clear HP hP
    have hm0 := MapAt.new (K := List UInt8) (V := Bool) (kv := str) (vv := Value.bool) (w.alloc (.cells #[.int .i64 0, .int .i64 0, .int .i64 0] 32))
    have k1 := k0.alloc (.map #[] 0)
    have b1 : Below w.heap.size w ((w.alloc (.cells #[.int .i64 0, .int .i64 0, .int .i64 0] 32)).alloc (.map #[] 0)) := b0.alloc (by simp) _
    simp only [World.size_alloc] at hm0
    go_enter Tryz.func71, Tryz.ntmps71
    go_wp2_with fail
    go_loopg [15, 4, 5, 6, 7] (len + 1) (fun k ct u4 u5 u6 u7 wr => ∃ i : Nat, i ≤ len ∧ k + i = len + 1 ∧ ct = .int .i64 i ∧ ∃ m, MapAt str Value.bool wr (w.heap.size + 1) m ∧ Blk wr w.heap.size #[.int .i64 0, .int .i64 0, .int .i64 0] 32 ∧ Below w.heap.size w wr ∧ Hid (filesF (fs.drop i) i m = P))
    case atStart => exact ⟨0, Nat.zero_le _, rfl, rfl, [], hm0, k1, b1, HP2.out.symm⟩
    case round =>
      obtain ⟨i, hi, hk, rfl, m, hm, kb, hb, HG⟩ := hrel
      by_cases hlt : i < len
      · obtain ⟨x, hx⟩ : ∃ x, fs[i]? = some x := ⟨fs[i]'(by have := HN.out; omega), List.getElem?_eq_getElem _⟩
        obtain ⟨fb, fo, rfl, hfb, xc⟩ := hr.elem (c := 2) (fun _ => rfl) (by omega) hx
        have y0 := xc 0 (by omega)
        have y1 := xc 1 (by omega)
        simp only [Fl.cells, List.getElem?_cons_zero, List.getElem?_cons_succ, Nat.add_zero] at y0 y1
        have x0 : wr.cell? ⟨fb, fo + i * 2, none⟩ = some (str x.name) := by rw [hb.cell (p := ⟨fb, fo + i * 2, none⟩) hfb]; exact y0
        have x1 : wr.cell? ⟨fb, fo + i * 2 + 1, none⟩ = some (str x.text) := by rw [hb.cell (p := ⟨fb, fo + i * 2 + 1, none⟩) hfb]; exact y1
        have hfb2 : fb < wr.heap.size := Nat.lt_of_lt_of_le hfb hb.size
        have hd : fs.drop i = x :: fs.drop (i + 1) := drop_of hx
        have HG2 : Hid (filesF (x :: fs.drop (i + 1)) i m = P) := Lib.hid (by rw [← hd]; exact HG.out)
        obtain ⟨hn1, hn2⟩ := hn x (List.mem_of_getElem? hx)
        have i0 : (0 : Int) ≤ (i : Int) := by omega
        have i1 : (i : Int) < (len : Int) := by omega
        have c6 := Blk.new wr #[str x.name, str x.text] 38
        have hm6 := hm.alloc (.cells #[str x.name, str x.text] 38)
        have kb6 := kb.alloc (.cells #[str x.name, str x.text] 38)
        have b6 : Below w.heap.size w (wr.alloc (.cells #[str x.name, str x.text] 38)) := hb.alloc hb.size _
        have hwr := hb.size
        clear hx hd HG y0 y1 xc hm hr HN
        go_upto_region 7 with fail
        generalize hq : wr.heap.size = q at *
        clear x0 x1 hfb2 hq
        generalize wr.alloc (.cells #[str x.name, str x.text] 38) = W6 at *
        have z0 := c6.cell 0
        have z1 := c6.cell 1
        have zl := c6.lt
        simp at z0 z1
        have hml := hm6.lt
        have hlk := hm6.lookup (P := Tryz.prog) Tryz.underlying192 key_str (.bool false) zero4 x.name
        have e1 : ((aget m x.name).map Value.bool).getD (.bool false) = .bool ((aget m x.name).getD false) := by cases aget m x.name <;> rfl
        rw [e1] at hlk
        have hh : headBad m x = (decide (x.name = []) || ((aget m x.name).getD false || (decide (x.text ≠ []) && decide (x.text.getLast? ≠ some 10)))) := rfl
        have HH := Lib.hid hh
        have HFE := Lib.hid (fileBad_eq m x)
        clear e1 hh
        generalize headBad m x = hbad at *
        go_cut [6] (fun v wx => v = .bool hbad ∧ wx = W6)
        case first =>
          generalize (aget m x.name).getD false = sn at *
          clear HG2 hn1 HFE
          obtain ⟨nm, tx⟩ := x
          simp only at *
          cases nm with
          | nil =>
            have hb1 : hbad = true := by rw [HH.out]; rfl
            clear HH
            go_wp2_with fail
            go_meet
            exact ⟨by rw [hb1], rfl⟩
          | cons y nm =>
            cases sn
            · cases tx with
              | nil =>
                have hb1 : hbad = false := by rw [HH.out]; rfl
                clear HH
                go_wp2_with fail
                go_meet
                exact ⟨by rw [hb1], rfl⟩
              | cons y2 tx =>
                have HB : Hid (hbad = decide ((y2 :: tx).getLast? ≠ some 10)) := Lib.hid (by rw [HH.out]; simp)
                have t0 : (0 : Int) ≤ (tx.length : Int) := by omega
                have t1 : (tx.length : Int) < (tx.length : Int) + 1 := by omega
                have t2 : wrap64 (tx.length : Int) = (tx.length : Int) := by simp only [List.length_cons] at hn2; unfold wrap64; omega
                have hby := byte_is (l := y2 :: tx) (n := tx.length) 10 (by simp)
                have HBY := Lib.hid hby
                clear HH hby
                go_wp2_with fail
                go_meet
                refine ⟨?_, rfl⟩
                rw [HB.out]
                congr 1
                rw [Bool.eq_iff_iff, bne_iff_ne, decide_eq_true_eq, List.getLast?_eq_getElem?]
                exact not_congr HBY.out
            · have hb1 : hbad = true := by rw [HH.out]; simp
              clear HH
              go_wp2_with fail
              go_meet
              exact ⟨by rw [hb1], rfl⟩
        case rest =>
          obtain ⟨rfl, rfl⟩ := hcut
          clear hlk hml HH
          obtain ⟨nm, tx⟩ := x
          simp only at *
          generalize hnl : nm.length = nl at *
          have HNL := Lib.hid hnl
          clear hnl
          go_upto_region 9 with fail
          go_loopg [47, 7, 6] (nl + 1) (fun k2 ct u7 u6 wx => ∃ j : Nat, j ≤ nl ∧ k2 + j = nl + 1 ∧ ct = .int .i64 j ∧ u6 = .bool (hbad || (nm.take j).any byteBad) ∧ wx = wc)
          case atStart => exact ⟨0, Nat.zero_le _, rfl, rfl, by simp, rfl⟩
          case round =>
            obtain ⟨j, hj, hkj, rfl, rfl, rfl⟩ := hrel
            by_cases hjl : j < nl
            · have hlen : j < nm.length := by rw [HNL.out]; exact hjl
              obtain ⟨b, hbj⟩ : ∃ b, nm[j]? = some b := ⟨nm[j], List.getElem?_eq_getElem hlen⟩
              have hbx : (⟨nm.toArray⟩ : ByteArray)[j]'(show j < (⟨nm.toArray⟩ : ByteArray).size from hlen) = b := by
                have e2 : (⟨nm.toArray⟩ : ByteArray)[j]'(show j < (⟨nm.toArray⟩ : ByteArray).size from hlen) = nm[j] := rfl
                rw [e2]
                rw [List.getElem?_eq_getElem hlen] at hbj
                exact Option.some.inj hbj
              have hsz : (⟨nm.toArray⟩ : ByteArray).size = nl := HNL.out
              have hnx : (nm.take (j + 1)).any byteBad = ((nm.take j).any byteBad || byteBad b) := by
                rw [List.take_add_one, hbj, List.any_append]
                simp
              have HNX := Lib.hid hnx
              have j0 : (0 : Int) ≤ (j : Int) := by omega
              have j1 : (j : Int) < (nl : Int) := by omega
              have hjb : (j : Int) ≤ 1099511627776 := by omega
              clear hnx hbj
              generalize hcur : (hbad || (nm.take j).any byteBad) = cur
              have HC : Hid ((hbad || (nm.take (j + 1)).any byteBad) = (cur || byteBad b)) := Lib.hid (by rw [HNX.out, ← Bool.or_assoc, hcur])
              clear hcur HNX
              cases cur
              · by_cases h32 : (b.toNat : Int) < 32
                · have hbb : byteBad b = true := by unfold byteBad; rw [decide_eq_true (by omega)]; rfl
                  go_wp2_with fail
                  go_roundg (nl - j)
                  case measure => omega
                  case rel => exact ⟨j + 1, by omega, by omega, by go_num, by rw [HC.out, hbb]; rfl, rfl⟩
                · by_cases h34 : b = 34
                  · subst h34
                    go_wp2_with fail
                    go_roundg (nl - j)
                    case measure => omega
                    case rel => exact ⟨j + 1, by omega, by omega, by go_num, by rw [HC.out]; rfl, rfl⟩
                  · have h34i : ((b.toNat : Int) == 34) = false := by
                      rw [beq_eq_false_iff_ne]
                      intro e
                      apply h34
                      apply UInt8.toNat.inj
                      exact_mod_cast e
                    have hbb : byteBad b = ((b.toNat : Int) == 127) := by
                      unfold byteBad
                      rw [decide_eq_false (by omega), Bool.false_or]
                      have : (b == 34) = false := by rw [beq_eq_false_iff_ne]; exact h34
                      rw [this, Bool.false_or, Bool.eq_iff_iff, beq_iff_eq, beq_iff_eq]
                      constructor
                      · rintro rfl; rfl
                      · intro e
                        apply UInt8.toNat.inj
                        exact_mod_cast e
                    clear h34
                    have HBB := Lib.hid hbb
                    clear hbb
                    go_wp2_with fail
                    go_roundg (nl - j)
                    case measure => omega
                    case rel => exact ⟨j + 1, by omega, by omega, by go_num, by rw [HC.out, HBB.out]; rfl, rfl⟩
              · go_wp2_with fail
                go_roundg (nl - j)
                case measure => omega
                case rel => exact ⟨j + 1, by omega, by omega, by go_num, by rw [HC.out]; rfl, rfl⟩
            · have hjn : j = nl := by omega
              subst hjn
              have htk : (nm.take j).any byteBad = nm.any byteBad := by rw [List.take_of_length_le (by rw [HNL.out]; exact Nat.le_refl _)]
              rw [htk]
              have hlnm : ¬ ((j : Int) < (nm.length : Int)) := by rw [HNL.out]; omega
              have hfe := HFE.out
              generalize (hbad || nm.any byteBad) = fbad at *
              have HFB := Lib.hid hfe
              clear hfe htk HFE
              have d0 := kb6.cell 0
              have d1 := kb6.cell 1
              have d2 := kb6.cell 2
              have f0 := kb6.frozen 0
              have f1 := kb6.frozen 1
              have f2 := kb6.frozen 2
              have dl := kb6.lt
              simp at d0 d1 d2
              have hbF := fun (u0 u1 u2 : Value) => Mod.below (S := fun k => w.heap.size ≤ k) (B := w.heap.size) ((((Mod.of_below b6).setCell (p := ⟨w.heap.size, 0, none⟩) (.inl (Nat.le_refl _)) u0).setCell (p := ⟨w.heap.size, 1, none⟩) (.inl (Nat.le_refl _)) u1).setCell (p := ⟨w.heap.size, 2, none⟩) (.inl (Nat.le_refl _)) u2) (Nat.le_refl _) (fun k (hk : k < w.heap.size) h => by omega)
              cases fbad
              · by_cases hlong : 1048576 < tx.length
                · have hP : P = ⟨2, i, 0⟩ := by rw [← HG2.out]; exact filesF_long HFB.out hlong
                  subst hP
                  have hli : 1048576 < (tx.length : Int) := by omega
                  clear HG2 HP2
                  go_wp2_with fail
                  have kF := ((kb6.setCell 0 (.int .i64 2)).setCell 1 (.int .i64 i)).setCell 2 (.int .i64 0)
                  have r0 := kF.cell 0
                  have r1 := kF.cell 1
                  have r2 := kF.cell 2
                  simp at r0 r1 r2
                  exact bodyPost_ret (v := .agg #[.int .i64 2, .int .i64 i, .int .i64 0]) (by simp [results, Tryz.results71, go_sem, r0, r1, r2]) rfl ⟨rfl, hbF _ _ _⟩
                · have hP : filesF (fs.drop (i + 1)) (i + 1) (aset m nm true) = P := by rw [← HG2.out]; exact (filesF_next HFB.out hlong).symm
                  have HG3 := Lib.hid hP
                  have hli : ¬ 1048576 < (tx.length : Int) := by omega
                  clear HG2 hP
                  go_wp2_with (at_mapUpdate; refine wpList_mapUpdate_at (by rfl) 192 _ _ _ (by rfl) 9 4 Tryz.underlying192 key_str (w.heap.size + 1) m (by rfl) hm6 nm (by rfl) true (by rfl) ?_)
                  intro w5 m2 m3 m4
                  have M4 := Lib.hid m4
                  clear m4
                  go_wp2_with fail
                  go_roundg (len - i)
                  case measure => omega
                  case rel => exact ⟨i + 1, by omega, by omega, by go_num, _, m2, kb6.mod m3 (by omega), b6.trans (Mod.below (B := w.heap.size) m3 b6.size (fun k hk e => by omega)), HG3⟩
              · have hP : P = ⟨70, i, 0⟩ := by rw [← HG2.out]; exact filesF_bad HFB.out
                subst hP
                clear HG2 HP2
                go_wp2_with fail
                have kF := ((kb6.setCell 0 (.int .i64 70)).setCell 1 (.int .i64 i)).setCell 2 (.int .i64 0)
                have r0 := kF.cell 0
                have r1 := kF.cell 1
                have r2 := kF.cell 2
                simp at r0 r1 r2
                exact bodyPost_ret (v := .agg #[.int .i64 70, .int .i64 i, .int .i64 0]) (by simp [results, Tryz.results71, go_sem, r0, r1, r2]) rfl ⟨rfl, hbF _ _ _⟩
      · have : i = len := by omega
        subst this
        have hP : P = ⟨0, 0, 0⟩ := by rw [← HG.out, List.drop_of_length_le (by rw [HN.out]; exact Nat.le_refl _)]; rfl
        subst hP
        have c0 := kb.cell 0
        have c1 := kb.cell 1
        have c2 := kb.cell 2
        have f0 := kb.frozen 0
        have f1 := kb.frozen 1
        have f2 := kb.frozen 2
        have kl := kb.lt
        simp at c0 c1 c2
        clear HG HP2 HN k0 k1 b0 b1 hm0
        go_wp2_with fail
        have kF := ((kb.setCell 0 (.int .i64 0)).setCell 1 (.int .i64 0)).setCell 2 (.int .i64 0)
        have hbF : Below w.heap.size w (((wr.setCell ⟨w.heap.size, 0, none⟩ (.int .i64 0)).setCell ⟨w.heap.size, 1, none⟩ (.int .i64 0)).setCell ⟨w.heap.size, 2, none⟩ (.int .i64 0)) :=
          Mod.below (S := fun k => w.heap.size ≤ k) ((((Mod.of_below hb).setCell (p := ⟨w.heap.size, 0, none⟩) (.inl (Nat.le_refl _)) _).setCell (p := ⟨w.heap.size, 1, none⟩) (.inl (Nat.le_refl _)) _).setCell (p := ⟨w.heap.size, 2, none⟩) (.inl (Nat.le_refl _)) _) (Nat.le_refl _) (fun k hk h => by omega)
        have d0 := kF.cell 0
        have d1 := kF.cell 1
        have d2 := kF.cell 2
        simp at d0 d1 d2
        exact bodyPost_ret (v := .agg #[.int .i64 0, .int .i64 0, .int .i64 0]) (by simp [results, Tryz.results71, go_sem, d0, d1, d2]) rfl ⟨rfl, hbF⟩
end Go.Proofs.YtpekmohnjpbkgaaGreatDoor

namespace Go.Proofs.YtpekmohnjpbkgaaGreatDoor
open Go Go.RowKit
set_option maxHeartbeats 1000000
set_option maxRecDepth 100000
attribute [local go_sem ↓] Go.wp_at_zero Go.wp_at_succ

theorem assert126 (v : Value) (w : World) : (Instr.typeAssert (.iface 126 v) 20 126 true).run Tryz.prog w = .ok (.tuple #[v, .bool true]) w := by kernel_rfl
theorem assert126_nil (w : World) : (Instr.typeAssert .nilIface 20 126 true).run Tryz.prog w = .ok (.tuple #[.agg #[.int .i64 0, .int .i64 0, .int .i64 0], .bool false]) w := by kernel_rfl

theorem read1_idle (k : Nat) (w : World) :
    CallsD Tryz.prog 72 #[.pointer (some ⟨k, 0, none⟩), .pointer (some ⟨k + 1, 0, none⟩)] .returning w fun e u' w' => e = .returned (.tuple #[]) ∧ u' = .returning ∧ Below w.heap.size w w' := by
  have hta := assert126_nil w
  have hrep : (Array.replicate 11 undef : Array Value) = #[undef, undef, undef, undef, undef, undef, undef, undef, undef, undef, undef] := rfl
  refine callsD_of_wpS Tryz.func72 rfl fun c₀ cs hu => ?_
  apply wpS_seq
  apply wpS_region
  simp [wpOpsS, go_sem, recoverD, hu, Tryz.ntmps72, Exit.thenS, hta, hrep]
  clear hta
  refine wpS_of_wp ?_
  go_wp2_with fail
  cases c₀
  simp_all [bodyPostS, results, Tryz.results72]
  exact (Below.refl _ _).alloc (Nat.le_refl _) _

theorem read1_panicking (k : Nat) (p : Pl) (c0 c1 : Array Value) (older : List PanicEntry) (w : World) (h0 : Blk w k c0 29) (h1 : Blk w (k + 1) c1 32) (hs : c0.size = 2) (hs1 : c1.size = 3) :
    CallsD Tryz.prog 72 #[.pointer (some ⟨k, 0, none⟩), .pointer (some ⟨k + 1, 0, none⟩)] (.panicking ({ v := .iface 126 (.agg #[.int .i64 p.e, .int .i64 p.file, .int .i64 p.line]), recovered := false } :: older)) w fun e u' w' =>
      e = .returned (.tuple #[]) ∧ u' = .panicking ({ v := .iface 126 (.agg #[.int .i64 p.e, .int .i64 p.file, .int .i64 p.line]), recovered := true } :: older) ∧ Blk w' k #[str [], .slice none 0 0] 29 ∧ Blk w' (k + 1) #[.int .i64 p.e, .int .i64 p.file, .int .i64 p.line] 32 ∧ Mod (fun i => i = k ∨ i = k + 1) w w' := by
  have hta := assert126 (.agg #[.int .i64 p.e, .int .i64 p.file, .int .i64 p.line]) w
  have hrep : (Array.replicate 11 undef : Array Value) = #[undef, undef, undef, undef, undef, undef, undef, undef, undef, undef, undef] := rfl
  refine callsD_of_wpS Tryz.func72 rfl fun c₀ cs hu => ?_
  apply wpS_seq
  apply wpS_region
  simp [wpOpsS, go_sem, recoverD, hu, Tryz.ntmps72, Exit.thenS, hta, hrep]
  clear hta
  refine wpS_of_wp ?_
  obtain ⟨a0, a1, rfl⟩ : ∃ a0 a1, c0 = #[a0, a1] := ⟨c0[0], c0[1], by apply Array.ext <;> simp [hs]; intro i hi; rcases i with _ | _ | i <;> simp; omega⟩
  obtain ⟨b0, b1, b2, rfl⟩ : ∃ b0 b1 b2, c1 = #[b0, b1, b2] := ⟨c1[0], c1[1], c1[2], by apply Array.ext <;> simp [hs1]; intro i hi; rcases i with _ | _ | _ | i <;> simp; omega⟩
  have g0 := h0.alloc (.cells #[.int .i64 p.e, .int .i64 p.file, .int .i64 p.line] 126)
  have g1 := h1.alloc (.cells #[.int .i64 p.e, .int .i64 p.file, .int .i64 p.line] 126)
  have g2 := Blk.new w #[.int .i64 p.e, .int .i64 p.file, .int .i64 p.line] 126
  have hm : Mod (fun i => i = k ∨ i = k + 1) w (w.alloc (.cells #[.int .i64 p.e, .int .i64 p.file, .int .i64 p.line] 126)) := (Mod.refl _ _).alloc _
  have hl0 := h0.lt
  have hl1 := h1.lt
  clear h0 h1
  generalize hq : w.heap.size = q at *
  generalize w.alloc (.cells #[.int .i64 p.e, .int .i64 p.file, .int .i64 p.line] 126) = W at *
  have z0 := g2.cell 0
  have z1 := g2.cell 1
  have z2 := g2.cell 2
  have zl := g2.lt
  have x0 := g0.cell 0
  have x1 := g0.cell 1
  have xf0 := g0.frozen 0
  have xf1 := g0.frozen 1
  have xl := g0.lt
  have y0 := g1.cell 0
  have y1 := g1.cell 1
  have y2 := g1.cell 2
  have yf0 := g1.frozen 0
  have yf1 := g1.frozen 1
  have yf2 := g1.frozen 2
  have yl := g1.lt
  simp at z0 z1 z2 x0 x1 y0 y1 y2
  have n0 : q ≠ k := by omega
  have n1 : q ≠ k + 1 := by omega
  have n2 : k ≠ q := by omega
  have n3 : k + 1 ≠ q := by omega
  go_wp2_with fail
  go_region
  all_goals
    go_wp2_with fail
    have e0 := ((((((g0).setCell 0 (str [])).setCell 1 (.slice none 0 0)).setCell_other (p := ⟨k + 1, 0, none⟩) (by show k + 1 ≠ k; omega) (.int .i64 p.e)).setCell_other (p := ⟨k + 1, 1, none⟩) (by show k + 1 ≠ k; omega) (.int .i64 p.file)).setCell_other (p := ⟨k + 1, 2, none⟩) (by show k + 1 ≠ k; omega) (.int .i64 p.line))
    have e1 := ((((((g1).setCell_other (p := ⟨k, 0, none⟩) (by show k ≠ k + 1; omega) (str [])).setCell_other (p := ⟨k, 1, none⟩) (by show k ≠ k + 1; omega) (.slice none 0 0)).setCell 0 (.int .i64 p.e)).setCell 1 (.int .i64 p.file)).setCell 2 (.int .i64 p.line))
    have em := ((((((hm).setCell (p := ⟨k, 0, none⟩) (.inl (.inl rfl)) (str [])).setCell (p := ⟨k, 1, none⟩) (.inl (.inl rfl)) (.slice none 0 0)).setCell (p := ⟨k + 1, 0, none⟩) (.inl (.inr rfl)) (.int .i64 p.e)).setCell (p := ⟨k + 1, 1, none⟩) (.inl (.inr rfl)) (.int .i64 p.file)).setCell (p := ⟨k + 1, 2, none⟩) (.inl (.inr rfl)) (.int .i64 p.line))
    simp at e0 e1
    simp [bodyPostS, results, Tryz.results72]
    exact ⟨e0.drew, e1.drew, em.drew⟩
end Go.Proofs.YtpekmohnjpbkgaaGreatDoor
