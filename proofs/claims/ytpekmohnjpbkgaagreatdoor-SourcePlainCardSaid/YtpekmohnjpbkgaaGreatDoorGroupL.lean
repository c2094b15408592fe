/- source.selected. source.Local, Global. source.Select. -/
import Derived.Test.YtpekmohnjpbkgaaGreatDoorGroupE
import Derived.Test.YtpekmohnjpbkgaaGreatDoorGroupF
import Derived.Test.YtpekmohnjpbkgaaGreatDoorGroupH
namespace Go.Proofs.YtpekmohnjpbkgaaGreatDoor
open Go Go.RowKit
set_option maxHeartbeats 1000000
set_option maxRecDepth 100000
attribute [local go_sem ↓] Go.wp_at_zero Go.wp_at_succ

/-- A row of segments that a call has made. -/
def SelPost (w : World) (F : List SegV) (e : Ending) (w' : World) : Prop :=
  ∃ a cap, e = .returned (.slice a F.length cap) ∧ SegsAt w' a F ∧ Below w.heap.size w w' ∧ ∀ b o, a = some ⟨b, o, none⟩ → w.heap.size ≤ b

theorem take_filter {α : Type} (p : α → Bool) {L : List α} {i : Nat} {x : α} (h : L[i]? = some x) : (L.take (i + 1)).filter p = (L.take i).filter p ++ (if p x then [x] else []) := by
  rw [List.take_add_one, h, List.filter_append]
  by_cases hp : p x <;> simp [hp]

theorem selected_any (l : List UInt8) (V : List SegV) (a : Option Addr) (cap : Nat) (c : Int) (hc : 0 ≤ c) (hc1 : c < 18446744073709551616) (w : World) (hV : V.length ≤ 65536) (hr : SegsAt w a V) :
    Calls Tryz.prog 79 #[.agg #[str l, .slice a V.length cap], .int .u64 c] w (SelPost w (V.filter fun x => holdsB x.da.d c)) := by
  generalize hp : (fun x : SegV => holdsB x.da.d c) = p
  have HP := Lib.hid hp
  generalize hn : V.length = len at *
  have HN := Lib.hid hn
  clear hn hp
  have k0 := Blk.new w #[str l, .slice a len cap] 29
  have b0 : Below w.heap.size w (w.alloc (.cells #[str l, .slice a len cap] 29)) := (Below.refl _ _).alloc (Nat.le_refl _) _
  go_enter Tryz.func79, Tryz.ntmps79
  go_wp2_with fail
  go_loopg [11, 5, 7] (len + 1) (fun k ct va u7 wr => ∃ i : Nat, i ≤ len ∧ k + i = len + 1 ∧ ct = .int .i64 i ∧ Own 45 6 SegV.cells w.heap.size wr va ((V.take i).filter p) ∧ Below w.heap.size w wr ∧ Blk wr w.heap.size #[str l, .slice a len cap] 29)
  case atStart => exact ⟨0, Nat.zero_le _, rfl, rfl, Own.nil _ _, b0, k0⟩
  case round =>
    obtain ⟨i, hi, hk, rfl, own, bw, k1⟩ := hrel
    have e0 := k1.cell 0
    have e1 := k1.cell 1
    have hk1 := k1.lt
    simp at e0 e1
    by_cases hlt : i < len
    · obtain ⟨x, hx⟩ : ∃ x, V[i]? = some x := ⟨V[i]'(by have := HN.out; omega), List.getElem?_eq_getElem _⟩
      obtain ⟨hok, b, o, rfl, hb, x0, x1, x2, x3, x4, x5⟩ := (hr.below bw).at hx
      have htf := take_filter p hx
      have HTF := Lib.hid htf
      have hpx : p x = holdsB x.da.d c := by rw [← HP.out]
      have HPX := Lib.hid hpx
      have i0 : (0 : Int) ≤ (i : Int) := by omega
      have i1 : (i : Int) < (len : Int) := by omega
      have hFl : ((V.take i).filter p).length ≤ i := Nat.le_trans (List.length_filter_le _ _) (List.length_take_le _ _)
      clear hx htf hpx
      obtain ⟨fr, till, file, at', ⟨d, da, dc⟩⟩ := x
      simp only at *
      have hh := holds_any ⟨d, da, dc⟩ c hc hc1 (wr.alloc (.cells #[.int .i64 fr, .int .i64 till, .int .i64 file, .int .i64 at', .slice da d.nodes.length dc, .int .i64 d.root] 45)) (hok.below ((Below.refl _ _).alloc (Nat.le_refl _) _))
      simp only [DA.val] at hh
      have kx := Blk.new wr #[.int .i64 fr, .int .i64 till, .int .i64 file, .int .i64 at', .slice da d.nodes.length dc, .int .i64 d.root] 45
      have ownx := own.alloc (.cells #[.int .i64 fr, .int .i64 till, .int .i64 file, .int .i64 at', .slice da d.nodes.length dc, .int .i64 d.root] 45)
      have bwx := bw.alloc bw.size (.cells #[.int .i64 fr, .int .i64 till, .int .i64 file, .int .i64 at', .slice da d.nodes.length dc, .int .i64 d.root] 45)
      have kk := k1.alloc (.cells #[.int .i64 fr, .int .i64 till, .int .i64 file, .int .i64 at', .slice da d.nodes.length dc, .int .i64 d.root] 45)
      generalize hF : (V.take i).filter p = F at *
      have HF := Lib.hid hF
      clear hF
      cases hq : holdsB d c
      · rw [hq] at hh HPX
        have ht : (V.take (i + 1)).filter p = F := by rw [HTF.out, HPX.out]; simp
        have HT := Lib.hid ht
        clear ht hq
        go_wp2_with fail
        refine hh.mono ?_
        rintro e w2 ⟨rfl, b2⟩
        have m2 := Mod.of_below (S := fun _ => False) b2
        go_wp2_with fail
        go_roundg (len - i)
        case measure => omega
        case rel => exact ⟨i + 1, by omega, by omega, by go_num, by rw [HT.out]; exact ownx.mod m2 (fun _ _ h => h), bwx.trans (b2.mono bwx.size), kk.mod m2 (fun h => h)⟩
      · rw [hq] at hh HPX
        have ht : (V.take (i + 1)).filter p = F ++ [⟨fr, till, file, at', ⟨d, da, dc⟩⟩] := by rw [HTF.out, HPX.out]; simp
        have HT := Lib.hid ht
        clear ht hq
        go_wp2_with fail
        refine hh.mono ?_
        rintro e w2 ⟨rfl, b2⟩
        have m2 := Mod.of_below (S := fun _ => False) b2
        have kx2 := kx.mod m2 (fun h => h)
        have own2 := ownx.mod m2 (fun _ _ h => h)
        have kk2 := kk.mod m2 (fun h => h)
        have bw2 := bwx.trans (b2.mono bwx.size)
        have y0 := kx2.cell 0
        have y1 := kx2.cell 1
        have y2 := kx2.cell 2
        have y3 := kx2.cell 3
        have y4 := kx2.cell 4
        have y5 := kx2.cell 5
        have hkx := kx2.lt
        simp at y0 y1 y2 y3 y4 y5
        clear hh kx ownx kk
        obtain ⟨vA, vC, rfl⟩ := own2.form
        go_wp2_with (at_builtin; (refine wpList_append_row rowSeg (by rfl) _ _ (by rfl) w.heap.size (.slice vA F.length vC) F ⟨fr, till, file, at', ⟨d, da, dc⟩⟩ (by rfl) (own2.alloc _) w2.heap.size (by rfl) (Blk.new _ _ _) (by omega) (by have := bw2.size; simp; omega) (w2.heap.size + 1) (by simp) ?_))
        intro g cp w3 own3 grow hat hlt3
        have hsz2 := bw2.size
        have m3 : Mod (fun k => (Value.slice vA F.length vC).ownBlock = some k) w2 w3 := ((Mod.refl _ _).alloc _).grown grow (fun k e _ => e)
        have kk3 := (kk2.alloc (.cells #[.int .i64 fr, .int .i64 till, .int .i64 file, .int .i64 at', .slice da d.nodes.length dc, .int .i64 d.root] 45)).mod (Mod.of_grown grow) (fun e => (own2.ne_blk e.symm kk2 (by decide)) rfl)
        have bw3 : Below w.heap.size w w3 := bw2.trans (m3.below hsz2 (fun k hk e => by have := (own2.lt e).1; omega))
        clear hat grow
        go_wp2_with fail
        go_roundg (len - i)
        case measure => omega
        case rel => exact ⟨i + 1, by omega, by omega, by go_num, by rw [HT.out]; simpa using own3, bw3, kk3⟩
    · have : i = len := by omega
      subst this
      have ht : V.take i = V := List.take_of_length_le (by rw [HN.out]; exact Nat.le_refl _)
      rw [ht] at own
      obtain ⟨va', cp, rfl⟩ := own.form
      go_wp2_with fail
      go_ret
      exact ⟨va', cp, rfl, ⟨own.rd, fun x hx => (hr.ok x ((List.mem_filter.1 hx).1)).below bw⟩, bw, fun b o e => (own.lt (g := b) (by rw [e]; rfl)).1⟩
end Go.Proofs.YtpekmohnjpbkgaaGreatDoor

namespace Go.Proofs.YtpekmohnjpbkgaaGreatDoor
open Go Go.RowKit
set_option maxHeartbeats 1000000
set_option maxRecDepth 100000
attribute [local go_sem ↓] Go.wp_at_zero Go.wp_at_succ

/-- What holds of a segment of a valid source. -/
structure SegOk (len : Int) (x : SegD) : Prop where
  f0 : 0 ≤ x.fr
  ft : x.fr < x.till
  tl : x.till ≤ len
  dg : chk x.d = 0
  file : 0 ≤ x.file
  a0 : 0 ≤ x.at'
  a1 : x.at' ≤ 1048576 - (x.till - x.fr)
theorem segs_ok {text : List UInt8} : ∀ (L : List SegD) (pos : Int), chkSegs text L pos = 0 → 0 ≤ pos → ∀ x ∈ L, SegOk text.length x
  | [], _, _, _, x, hx => by cases hx
  | y :: L, pos, h, hp, x, hx => by
    obtain ⟨h1, h2⟩ := chkSegs_cons h
    obtain ⟨a, b, c, d, e, f, g, i⟩ := segBad_no h1
    rcases List.mem_cons.1 hx with rfl | hx
    · exact ⟨by omega, by omega, c, e, f, g, i⟩
    · exact segs_ok L y.till h2 (by omega) x hx
theorem chkS_ok {s : SrcD} (h : chkS s = 0) : chkSegs s.text s.segs 0 = 0 ∧ ∀ x ∈ s.segs, SegOk s.text.length x := by
  unfold chkS at h
  split at h
  · cases h
  · exact ⟨h, segs_ok _ _ h (by omega)⟩
theorem filter_map_d (V : List SegV) (c : Int) : (V.filter fun x => holdsB x.da.d c).map SegV.d = selF ⟨[], V.map SegV.d⟩ c := by
  unfold selF
  rw [List.filter_map]
  rfl

theorem local7_any (l : List UInt8) (V : List SegV) (a : Option Addr) (cap : Nat) (c pos : Int) (hc : 0 ≤ c) (hc1 : c < 18446744073709551616) (w : World) (hl : l.length ≤ 1048576) (hV : V.length ≤ 65536) (hr : SegsAt w a V) :
    Calls Tryz.prog 27 #[.agg #[str l, .slice a V.length cap], .int .u64 c, .int .i64 pos] w fun e w' => e = .returned (.tuple #[.int .i64 (localF ⟨l, V.map SegV.d⟩ c pos).1, .bool (localF ⟨l, V.map SegV.d⟩ c pos).2]) ∧ Below w.heap.size w w' := by
  have k0 := Blk.new w #[str l, .slice a V.length cap] 29
  have b0 : Below w.heap.size w (w.alloc (.cells #[str l, .slice a V.length cap] 29)) := (Below.refl _ _).alloc (Nat.le_refl _) _
  have ck := scheck_any l V a cap _ hl hV (hr.below b0)
  by_cases hq : chkS ⟨l, V.map SegV.d⟩ = 0
  · have hok := (chkS_ok hq).2
    have hF : localF ⟨l, V.map SegV.d⟩ c pos = localG l.length pos ((V.filter fun x => holdsB x.da.d c).map SegV.d) 0 := by
      unfold localF
      rw [if_neg (by simpa using hq), filter_map_d]
      rfl
    have hsel := fun w' hr' => selected_any l V a cap c hc hc1 w' hV hr'
    rw [hq] at ck
    rw [hF]
    have hok2 : ∀ x ∈ (V.filter fun x => holdsB x.da.d c), SegOk l.length x.d := fun x hx => hok x.d (List.mem_map_of_mem (List.mem_filter.1 hx).1)
    have hlen2 : (V.filter fun x => holdsB x.da.d c).length ≤ 65536 := Nat.le_trans (List.length_filter_le _ _) hV
    generalize (V.filter fun x => holdsB x.da.d c) = F at *
    generalize hg : localG l.length pos (F.map SegV.d) 0 = g
    have HG := Lib.hid hg
    have OK := Lib.hid hok2
    clear hF hq hok hok2 hg
    generalize V.length = len at *
    go_enter Tryz.func27, Tryz.ntmps27
    go_wp2_with fail
    refine ck.mono ?_
    rintro e w1 ⟨rfl, b1⟩
    have bw1 : Below w.heap.size w w1 := b0.trans (b1.mono b0.size)
    have k1 := k0.mod (Mod.of_below (S := fun _ => False) b1) (fun h => h)
    have e0 := k1.cell 0
    have e1 := k1.cell 1
    have hk1 := k1.lt
    simp at e0 e1
    have hs := hsel w1 (hr.below bw1)
    clear hsel ck
    go_wp2_with fail
    refine hs.mono ?_
    clear hs
    rintro e w2 ⟨aF, cF, rfl, hF, b2, -⟩
    have bw2 : Below w.heap.size w w2 := bw1.trans (b2.mono bw1.size)
    have k2 := k1.mod (Mod.of_below (S := fun _ => False) b2) (fun h => h)
    clear e0 e1
    generalize hn : F.length = lenF at *
    have HN := Lib.hid hn
    clear hn
    go_wp2_with fail
    go_loopg [18, 8, 10] (lenF + 1) (fun k ct va u10 wr => ∃ (i : Nat) (before : Int), i ≤ lenF ∧ k + i = lenF + 1 ∧ ct = .int .i64 i ∧ va = .int .i64 before ∧ 0 ≤ before ∧ before ≤ i * 1048576 ∧ Hid (localG l.length pos ((F.drop i).map SegV.d) before = g) ∧ Below w2.heap.size w2 wr)
    case atStart => exact ⟨0, 0, Nat.zero_le _, rfl, rfl, rfl, by omega, by omega, HG, Below.refl _ _⟩
    case round =>
      obtain ⟨i, before, hi, hk, rfl, rfl, p0, p1, HL, bel⟩ := hrel
      have bw := bw2.trans (bel.mono bw2.size)
      have k3 := k2.mod (Mod.of_below (S := fun _ => False) bel) (fun h => h)
      have e0 := k3.cell 0
      have e1 := k3.cell 1
      have hk3 := k3.lt
      simp at e0 e1
      by_cases hlt : i < lenF
      · obtain ⟨x, hx⟩ : ∃ x, F[i]? = some x := ⟨F[i]'(by have := HN.out; omega), List.getElem?_eq_getElem _⟩
        obtain ⟨hok, b, o, rfl, hb, x0, x1, x2, x3, x4, x5⟩ := (hF.below bel).at hx
        have so := OK.out x (List.mem_of_getElem? hx)
        have hdr := drop_of hx
        have hL2 : g = if x.fr ≤ pos ∧ pos < x.till then (before + pos - x.fr, true) else localG l.length pos ((F.drop (i + 1)).map SegV.d) (before + (x.till - x.fr)) := by
          rw [← HL.out, hdr]; rfl
        have HL2 := Lib.hid hL2
        have i0 : (0 : Int) ≤ (i : Int) := by omega
        have i1 : (i : Int) < (lenF : Int) := by omega
        have s0 := so.f0
        have s1 := so.ft
        have s2 := so.tl
        clear hx hdr HL hL2 so
        obtain ⟨fr, till, file, at', ⟨d, da, dc⟩⟩ := x
        simp only [SegV.d] at *
        have c0 : 0 ≤ before + pos - fr ∨ True := .inr trivial
        clear c0
        by_cases h1 : fr ≤ pos
        · by_cases h2 : pos < till
          · have hg : g = (before + pos - fr, true) := by rw [HL2.out, if_pos ⟨h1, h2⟩]
            subst hg
            clear HL2 HG
            go_wp2_with fail
            go_ret2
            exact ⟨rfl, bw.alloc bw.size _⟩
          · have hg := HL2.out
            rw [if_neg (by omega)] at hg
            have HL3 := Lib.hid hg.symm
            clear hg HL2
            go_wp2_with fail
            go_roundg (lenF - i)
            case measure => omega
            case rel => exact ⟨i + 1, _, by omega, by omega, by go_num, rfl, by omega, by omega, HL3, bel.alloc bel.size _⟩
        · have hg := HL2.out
          rw [if_neg (by omega)] at hg
          have HL3 := Lib.hid hg.symm
          clear hg HL2
          go_wp2_with fail
          go_roundg (lenF - i)
          case measure => omega
          case rel => exact ⟨i + 1, _, by omega, by omega, by go_num, rfl, by omega, by omega, HL3, bel.alloc bel.size _⟩
      · have : i = lenF := by omega
        subst this
        have hd : F.drop i = [] := List.drop_of_length_le (by rw [HN.out]; exact Nat.le_refl _)
        have hcc : g = if pos ≠ l.length then (0, false) else (before, true) := by rw [← HL.out, hd]; rfl
        by_cases h1 : pos = l.length
        · rw [if_neg (by simpa using h1)] at hcc
          subst hcc
          have h1' : (pos != (l.length : Int)) = false := by rw [bne_eq_false_iff_eq]; exact h1
          clear HG HL h1
          go_wp2_with fail
          go_ret2
          exact ⟨rfl, bw⟩
        · rw [if_pos h1] at hcc
          subst hcc
          have h1' : (pos != (l.length : Int)) = true := by rw [bne_iff_ne]; exact h1
          clear HG HL h1
          go_wp2_with fail
          go_ret2
          exact ⟨rfl, bw⟩
  · have hF : localF ⟨l, V.map SegV.d⟩ c pos = (0, false) := by
      unfold localF
      rw [if_pos hq]
    rw [hF]
    have hq' : (chkS ⟨l, V.map SegV.d⟩ != 0) = true := by rw [bne_iff_ne]; exact hq
    generalize chkS ⟨l, V.map SegV.d⟩ = q at *
    generalize V.length = len at *
    clear hq hF
    go_enter Tryz.func27, Tryz.ntmps27
    go_wp2_with fail
    refine ck.mono ?_
    rintro e w1 ⟨rfl, b1⟩
    go_wp2_with fail
    go_ret2
    exact ⟨rfl, b0.trans (b1.mono b0.size)⟩
end Go.Proofs.YtpekmohnjpbkgaaGreatDoor

namespace Go.Proofs.YtpekmohnjpbkgaaGreatDoor
open Go Go.RowKit
set_option maxHeartbeats 1000000
set_option maxRecDepth 100000
attribute [local go_sem ↓] Go.wp_at_zero Go.wp_at_succ

theorem ext_cut (l : List UInt8) (a b : Nat) : (⟨l.toArray⟩ : ByteArray).extract a b = ⟨((l.drop a).take (b - a)).toArray⟩ := by
  rw [ext_str, List.drop_take]

theorem cut_len {l : List UInt8} {x : SegD} (h : SegOk l.length x) : (cutB l x).length = (x.till - x.fr).toNat := by
  have h1 := h.f0
  have h2 := h.ft
  have h3 := h.tl
  simp [cutB]
  omega

theorem cuts_len {l : List UInt8} (n : Nat) (hn : l.length ≤ n) : ∀ (F : List SegD), (∀ x ∈ F, SegOk l.length x) → (F.flatMap (cutB l)).length ≤ F.length * n
  | [], _ => by simp
  | x :: F, h => by
    have h1 := cut_len (h x (by simp))
    have h2 := (h x (by simp)).f0
    have h3 := (h x (by simp)).tl
    have h4 := cuts_len n hn F (fun y hy => h y (by simp [hy]))
    rw [List.flatMap_cons, List.length_append, List.length_cons, Nat.add_mul, Nat.one_mul]
    omega

theorem select7_any (l : List UInt8) (V : List SegV) (a : Option Addr) (cap : Nat) (c : Int) (hc : 0 ≤ c) (hc1 : c < 18446744073709551616) (w : World) (hl : l.length ≤ 1048576) (hV : V.length ≤ 65536) (hr : SegsAt w a V) :
    Calls Tryz.prog 37 #[.agg #[str l, .slice a V.length cap], .int .u64 c] w fun e w' => e = .returned (str (selectF ⟨l, V.map SegV.d⟩ c)) ∧ Below w.heap.size w w' := by
  have k0 := Blk.new w #[str l, .slice a V.length cap] 29
  have b0 : Below w.heap.size w (w.alloc (.cells #[str l, .slice a V.length cap] 29)) := (Below.refl _ _).alloc (Nat.le_refl _) _
  have ck := scheck_any l V a cap _ hl hV (hr.below b0)
  have c0 := k0.cell 0
  have c1 := k0.cell 1
  simp at c0 c1
  by_cases hq : chkS ⟨l, V.map SegV.d⟩ = 0
  · have hok := (chkS_ok hq).2
    have hF : selectF ⟨l, V.map SegV.d⟩ c = ((V.filter fun x => holdsB x.da.d c).map SegV.d).flatMap (cutB l) := by
      unfold selectF
      rw [if_neg (by simpa using hq), filter_map_d]
      rfl
    have hsel := fun w' hr' => selected_any l V a cap c hc hc1 w' hV hr'
    rw [hq] at ck
    rw [hF]
    have hok2 : ∀ x ∈ (V.filter fun x => holdsB x.da.d c), SegOk l.length x.d := fun x hx => hok x.d (List.mem_map_of_mem (List.mem_filter.1 hx).1)
    have hlen2 : (V.filter fun x => holdsB x.da.d c).length ≤ 65536 := Nat.le_trans (List.length_filter_le _ _) hV
    generalize (V.filter fun x => holdsB x.da.d c) = F at *
    generalize hg : (F.map SegV.d).flatMap (cutB l) = g
    have HG := Lib.hid hg
    have OK := Lib.hid hok2
    clear hF hq hok hok2 hg
    generalize V.length = len at *
    go_enter Tryz.func37, Tryz.ntmps37
    go_wp2_with fail
    refine ck.mono ?_
    rintro e w1 ⟨rfl, b1⟩
    have bw1 : Below w.heap.size w w1 := b0.trans (b1.mono b0.size)
    have k1 := k0.mod (Mod.of_below (S := fun _ => False) b1) (fun h => h)
    have e0 := k1.cell 0
    have e1 := k1.cell 1
    have hk1 := k1.lt
    simp at e0 e1
    have hal : Below w1.heap.size w1 (w1.alloc (.cells #[.pointer none, .slice none 0 0] 122)) := (Below.refl _ _).alloc (Nat.le_refl _) _
    have hs := hsel (w1.alloc (.cells #[.pointer none, .slice none 0 0] 122)) ((hr.below bw1).below hal)
    have kb := Blk.new w1 #[.pointer none, .slice none 0 0] 122
    have k1' := k1.alloc (.cells #[.pointer none, .slice none 0 0] 122)
    clear hsel ck c0 c1
    go_wp2_with fail
    refine hs.mono ?_
    clear hs
    rintro e w2 ⟨aF, cF, rfl, hF, b2, hA⟩
    have bw2 : Below w.heap.size w w2 := (bw1.alloc bw1.size _).trans (b2.mono (by have := bw1.size; simp; omega))
    have k2 := k1'.mod (Mod.of_below (S := fun _ => False) b2) (fun h => h)
    have kb2 := kb.mod (Mod.of_below (S := fun _ => False) b2) (fun h => h)
    have hwb : w.heap.size ≤ w1.heap.size := bw1.size
    have hA : ∀ b o, aF = some ⟨b, o, none⟩ → w1.heap.size < b := fun b o e => by have := hA b o e; simp at this; omega
    have hbb : w1.heap.size < w2.heap.size := kb2.lt
    generalize w1.heap.size = bb at *
    clear e0 e1 b2 kb k1' hal
    generalize hn : F.length = lenF at *
    have HN := Lib.hid hn
    clear hn
    go_wp2_with fail
    go_loopg [15, 7] (lenF + 1) (fun k ct u7 wr => ∃ (i : Nat) (bp bv : Value) (D : List UInt8), i ≤ lenF ∧ k + i = lenF + 1 ∧ ct = .int .i64 i ∧ IsBp bb 0 bp ∧ Blk wr bb #[bp, bv] 122 ∧ Own 5 1 byteCell w2.heap.size wr bv D ∧ (D = [] → bv = .slice none 0 0) ∧
      Hid (D = ((F.take i).map SegV.d).flatMap (cutB l)) ∧ Mod (fun k => k = bb) w2 wr)
    case atStart => exact ⟨0, _, _, [], Nat.zero_le _, rfl, rfl, .inl rfl, kb2, Own.nil _ _, fun _ => rfl, Lib.hid rfl, Mod.refl _ _⟩
    case round =>
      obtain ⟨i, bp, bv, D, hi, hk, rfl, hbp, kb3, own, hnil, HD, mm⟩ := hrel
      have bw : Below w.heap.size w wr := bw2.trans (mm.below bw2.size (fun k hk e => by omega))
      have hne29 : bb ≠ w.heap.size := kb2.ne k2 (by decide)
      have k3 := k2.mod mm (fun e => hne29 e.symm)
      have e0 := k3.cell 0
      have hk3 := k3.lt
      have hkb3 := kb3.lt
      simp at e0
      by_cases hlt : i < lenF
      · obtain ⟨x, hx⟩ : ∃ x, F[i]? = some x := ⟨F[i]'(by have := HN.out; omega), List.getElem?_eq_getElem _⟩
        have hFr : Rd wr aF (rowCells SegV.cells F) := hF.rd.mod mm (fun b o e _ => by have := hA b o e; omega)
        obtain ⟨b, o, haF, hb, hcl⟩ := hFr.elem (c := 6) (fun _ => rfl) (by omega) hx
        have x0 := hcl 0 (by omega)
        have x1 := hcl 1 (by omega)
        have x2 := hcl 2 (by omega)
        have x3 := hcl 3 (by omega)
        have x4 := hcl 4 (by omega)
        have x5 := hcl 5 (by omega)
        subst haF
        have so := OK.out x (List.mem_of_getElem? hx)
        have hcut := cut_len so
        have htl : (F.take (i + 1)).map SegV.d = (F.take i).map SegV.d ++ [x.d] := by rw [List.take_add_one, hx]; simp
        have hD2 : D ++ cutB l x.d = ((F.take (i + 1)).map SegV.d).flatMap (cutB l) := by rw [htl, List.flatMap_append, ← HD.out]; simp
        have hDl : D.length ≤ i * 1048576 := by
          rw [HD.out]
          refine Nat.le_trans (cuts_len 1048576 hl _ (fun y hy => ?_)) ?_
          · obtain ⟨z, hz, rfl⟩ := List.mem_map.1 hy
            exact OK.out z (List.mem_of_mem_take hz)
          · rw [List.length_map]
            exact Nat.mul_le_mul_right _ (List.length_take_le _ _)
        have HD2 := Lib.hid hD2
        have i0 : (0 : Int) ≤ (i : Int) := by omega
        have i1 : (i : Int) < (lenF : Int) := by omega
        have s0 := so.f0
        have s1 := so.ft
        have s2 := so.tl
        have hex := ext_cut l x.fr.toNat x.till.toNat
        have hce : (l.drop x.fr.toNat).take (x.till.toNat - x.fr.toNat) = cutB l x.d := by
          show _ = (l.drop x.fr.toNat).take (x.till - x.fr).toNat
          congr 1
          have h1 : 0 ≤ x.fr := s0
          have h2 : x.fr < x.till := s1
          omega
        rw [hce] at hex
        clear hx htl hD2 so hce HD hcl
        have hne : cutB l x.d ≠ [] := by
          intro e
          rw [e] at hcut
          have h1 : x.fr < x.till := s1
          simp only [List.length_nil, SegV.d] at hcut
          omega
        have hsum : D.length + (cutB l x.d).length ≤ 1099511627776 := by
          rw [hcut]
          show D.length + (x.till - x.fr).toNat ≤ _
          have h2 : x.till ≤ l.length := s2
          have h1 : 0 ≤ x.fr := s0
          omega
        generalize cutB l x.d = ct at *
        obtain ⟨fr, till, file, at', ⟨d, da, dc⟩⟩ := x
        simp only [SegV.d, SegV.cells] at *
        simp at x0 x1 x2 x3 x4 x5
        have kb4 := kb3.alloc (.cells #[.int .i64 fr, .int .i64 till, .int .i64 file, .int .i64 at', .slice da d.nodes.length dc, .int .i64 d.root] 45)
        have own4 := own.alloc (.cells #[.int .i64 fr, .int .i64 till, .int .i64 file, .int .i64 at', .slice da d.nodes.length dc, .int .i64 d.root] 45)
        have ws := writeString_any place_own (by decide) bb #[bp, bv] bp bv w2.heap.size D ct _ kb4 rfl rfl hbp rfl own4 hsum (by have := mm.size; simp; omega)
        have HNE := Lib.hid hne
        clear hcut hne
        go_wp2_with fail
        refine ws.mono ?_
        clear ws
        rintro e w5 ⟨rfl, bv', kb5, own5, m5, new5⟩
        have m6 : Mod (fun k => k = bb) w2 w5 := by
          refine ((mm.alloc _).trans' m5 (fun _ _ h => h) ?_)
          rintro j hj (h | h)
          · exact h
          · have := (own.lt h).1
            omega
        go_wp2_with fail
        go_roundg (lenF - i)
        case measure => omega
        case rel =>
          refine ⟨i + 1, .pointer (some ⟨bb, 0, none⟩), bv', D ++ ct, by omega, by omega, by go_num, .inr rfl, kb5, own5, fun h => ?_, HD2, m6⟩
          exact absurd (List.append_eq_nil_iff.1 h).2 HNE.out
      · have : i = lenF := by omega
        subst this
        have ht : F.take i = F := List.take_of_length_le (by rw [HN.out]; exact Nat.le_refl _)
        have hD : D = g := by rw [HD.out, ht]; exact HG.out
        subst hD
        have st := string_any bb 0 #[bp, bv] bv w2.heap.size D wr kb3 (by rfl) own hnil
        clear HG HD ht
        go_wp2_with fail
        refine st.mono ?_
        rintro e w5 ⟨rfl, m5⟩
        go_wp2_with fail
        go_ret
        exact ⟨rfl, bw.trans (m5.below bw.size (fun k hk e => by have := (own.lt e).1; have := bw2.size; omega))⟩
  · have hF : selectF ⟨l, V.map SegV.d⟩ c = [] := by
      unfold selectF
      rw [if_pos hq]
    rw [hF]
    have hq' : (chkS ⟨l, V.map SegV.d⟩ != 0) = true := by rw [bne_iff_ne]; exact hq
    generalize chkS ⟨l, V.map SegV.d⟩ = q at *
    generalize V.length = len at *
    clear hq hF
    go_enter Tryz.func37, Tryz.ntmps37
    go_wp2_with fail
    refine ck.mono ?_
    rintro e w1 ⟨rfl, b1⟩
    go_wp2_with fail
    go_ret
    exact ⟨rfl, b0.trans (b1.mono b0.size)⟩
end Go.Proofs.YtpekmohnjpbkgaaGreatDoor
