/- A region that draws, whose operations read, and whose callees may make memory: one walk, over the class of the worlds that may stand between. diagram.Check: 0 for a canonical diagram, 20 for another, 2 for one with too many branches. The operations on Booleans; check of several sets; limited. binary: And, Or, Not of package diagram. Var, Holds. -/
import Derived.Test.YtpekmohnjpbkgaaGreatDoorGroupA
import Derived.Test.YtpekmohnjpbkgaaGreatDoorGroupC
import Derived.Deep.DeepCutAuto
import Derived.Laws.BitsLemmas
namespace Go.Proofs.YtpekmohnjpbkgaaGreatDoor
open Go Go.RowKit

theorem wp_region_cls {P : Program} {ι : Type} (wv : ι → World) (i0 : ι) {id : Nat} {Q : Exit → Act → World → Prop} {a : Act} {w : World} {l : List Oper} (h0 : w.drew = wv i0) (hm : P.follows .mixedOrders = true) (hB : Region.lexB .any l.toArray = true)
    (h : wpQuiet P l.toArray (fun w' => ∃ n, w' = wv n) (fun a' => ∀ w', (∃ n, w' = wv n) → Q .normal a' w') l a) : (Code.region id l.toArray true).wp P Q a w :=
  wp_region_quiet (C := fun w' => ∃ n, w' = wv n) hm hB ⟨i0, h0⟩ (by simpa using h)

/-- The worlds that stand above W with nothing turned in W. -/
structure Above (W : World) where
  val : World
  property : Below W.heap.size W val
def Above.start (W : World) : Above W := ⟨W.drew, (Below.refl _ _).drew⟩
instance (W : World) : Nonempty (Above W) := ⟨Above.start W⟩
def Above.next {W : World} (n : Above W) {w' : World} (h : Below n.val.heap.size n.val w') : Above W := ⟨w', n.property.trans (h.mono n.property.size)⟩
theorem Above.cell {W : World} (n : Above W) {b o : Nat} {v : Value} (h : W.cell? ⟨b, o, none⟩ = some v) : n.val.cell? ⟨b, o, none⟩ = some v := by
  rw [n.property.cell (p := ⟨b, o, none⟩) (lt_of_cell h)]; exact h
theorem Above.call {W : World} (n : Above W) {e e' : Ending} {w' : World} (h : e = e' ∧ Below n.val.heap.size n.val w') : e = e' ∧ ∃ m : Above W, w' = m.val := ⟨h.1, n.next h.2, rfl⟩
end Go.Proofs.YtpekmohnjpbkgaaGreatDoor

namespace Go.Proofs.YtpekmohnjpbkgaaGreatDoor
open Go Go.RowKit
set_option maxHeartbeats 1000000
set_option maxRecDepth 100000
attribute [local go_sem ↓] Go.wp_at_zero Go.wp_at_succ

/-- What makes a branch bad, given those before it. -/
def bad1 (i : Nat) (b : Br) (k : Bool) : Bool :=
  decide (b.var < 0) || decide (63 < b.var) || decide (b.low < 0) || decide (b.high < 0) || decide ((i : Int) + 1 < b.low) || decide ((i : Int) + 1 < b.high) || (b.low == b.high) || k
def bad2 (N : List Br) (b : Br) : Bool := decide (levelN N b.low ≤ b.var) || decide (levelN N b.high ≤ b.var)

/-- The set of the branches so far, as the program's map. -/
def seenM (L : List Br) : List (Br × Bool) := L.map fun b => (b, true)

theorem aget_seen (L : List Br) (x : Br) : aget (seenM L) x = if x ∈ L then some true else none := by
  induction L with
  | nil => simp [seenM, aget]
  | cons y L ih =>
    simp only [seenM, List.map_cons, aget] at ih ⊢
    by_cases h : x = y
    · simp [h]
    · rw [if_neg h, ih]
      simp [h]
theorem aset_seen (L : List Br) (x : Br) (h : x ∉ L) : aset (seenM L) x true = seenM (L ++ [x]) := by
  have := aset_new (m := seenM L) (k := x) (v := true) (by rw [aget_seen, if_neg h])
  rw [this]; simp [seenM]

/-- Up to the i-th branch all is well, and the map holds what was seen. -/
structure ChkI (w : World) (N : List Br) (len : Nat) (a : Option Addr) (cap : Nat) (root : Int) (bx bm : Nat) (i : Nat) (wr : World) : Prop where
  ord : Ord (N.take i)
  nd : (N.take i).Nodup
  map : MapAt Br.val Value.bool wr bm (seenM (N.take i))
  blk : Blk wr bx #[.slice a len cap, .int .i64 root] 42
  below : Below w.heap.size w wr


open Classical in
/-- What Check answers: 0 for a set in its canonical form, 20 for another one, 2 for one with too many branches. -/
noncomputable def chk (d : Dg) : Int := if 4096 < d.nodes.length then 2 else if Valid d then 0 else 20

theorem good_of {N : List Br} {i : Nat} {b : Br} {k : Bool} (h1 : bad1 i b k = false) (h2 : bad2 N b = false) : BrOk N i b ∧ k = false := by
  simp [bad1] at h1
  simp [bad2] at h2
  obtain ⟨⟨⟨⟨⟨⟨⟨a1, a2⟩, a3⟩, a4⟩, a5⟩, a6⟩, a7⟩, a8⟩ := h1
  exact ⟨⟨by omega, by omega, by omega, by omega, by omega, by omega, a7, h2.1, h2.2⟩, a8⟩
theorem bad_not {d : Dg} {i : Nat} {b : Br} (hb : d.nodes[i]? = some b) (h : bad1 i b (decide (b ∈ d.nodes.take i)) = true ∨ bad2 d.nodes b = true) : ¬ Valid d := by
  intro v
  have ok := v.ord i b hb
  have a1 := ok.v0
  have a2 := ok.v1
  have a3 := ok.l0
  have a4 := ok.h0
  have a5 := ok.l1
  have a6 := ok.h1
  have a7 := ok.ne
  have a8 := ok.lv
  have a9 := ok.hv
  rcases h with h | h
  · simp [bad1] at h
    have hm : b ∈ d.nodes.take i := by
      rcases h with (((((((h | h) | h) | h) | h) | h) | h) | h)
      all_goals first | omega | exact h
    obtain ⟨hi, hbi⟩ := List.getElem?_eq_some_iff.1 hb
    have nd := v.nodup
    rw [← List.take_append_drop i d.nodes] at nd
    refine (List.nodup_append.1 nd).2.2 b hm b ?_ rfl
    rw [List.mem_iff_getElem?]
    exact ⟨0, by rw [List.getElem?_drop]; simpa using hb⟩
  · simp [bad2] at h
    omega
theorem chk_bad {d : Dg} (hl : d.nodes.length ≤ 4096) (h : ¬ Valid d) : chk d = 20 := by
  unfold chk
  rw [if_neg (by omega), if_neg h]
theorem numbered_len {N : List Br} (hN : Ord N) {n : Int} (n0 : 0 ≤ n) (n1 : n < N.length + 2) : (numbered N n).nodes.length ≤ N.length + 2 :=
  (numbered_post hN n0 n1).inv.out_le
theorem take_succ_of {N : List Br} {i : Nat} {x : Br} (h : N[i]? = some x) : N.take (i + 1) = N.take i ++ [x] := by
  rw [List.take_add_one, h]; rfl
theorem levelN_take {N : List Br} {i : Nat} {n : Int} (hi : i ≤ N.length) (h : n < (i : Int) + 2) : levelN (N.take i) n = levelN N n := by
  have := levelN_append (N := N.take i) (M := N.drop i) (n := n) (by simp; omega)
  rw [List.take_append_drop] at this
  exact this.symm
theorem brOk_take {N : List Br} {i : Nat} {x : Br} (hi : i ≤ N.length) (h : BrOk N i x) : BrOk (N.take i) (N.take i).length x := by
  have e : (N.take i).length = i := by simp; omega
  rw [e]
  have := h.l1
  have := h.h1
  exact ⟨h.v0, h.v1, h.l0, h.h0, h.l1, h.h1, h.ne, by rw [levelN_take hi (by omega)]; exact h.lv, by rw [levelN_take hi (by omega)]; exact h.hv⟩

theorem check_loop (d : Dg) (a : Option Addr) (cap : Nat) (w : World) (hr : Rd w a (brCells d.nodes)) (hl : d.nodes.length ≤ 4096) :
    Calls Tryz.prog 81 #[.agg #[.slice a d.nodes.length cap, .int .i64 d.root]] w fun e w' => e = .returned (.int .i64 (chk d)) ∧ Below w.heap.size w w' := by
  have hmm := @run_makeMap Tryz.prog
  obtain ⟨N, root⟩ := d
  simp only at *
  have hb0 : Blk ((w.alloc (.cells #[.slice a N.length cap, .int .i64 root] 42)).alloc (.map #[] 0)) w.heap.size #[.slice a N.length cap, .int .i64 root] 42 := (Blk.new _ _ _).alloc _
  have hm0 := MapAt.new (K := Br) (V := Bool) (kv := Br.val) (vv := Value.bool) (w.alloc (.cells #[.slice a N.length cap, .int .i64 root] 42))
  have e1 : (w.alloc (.cells #[.slice a N.length cap, .int .i64 root] 42)).heap.size = w.heap.size + 1 := by simp
  rw [e1] at hm0
  have hI : ChkI w N N.length a cap root w.heap.size (w.heap.size + 1) 0 ((w.alloc (.cells #[.slice a N.length cap, .int .i64 root] 42)).alloc (.map #[] 0)) :=
    ⟨by simpa using Ord.nil, by simp, by simpa [seenM] using hm0, hb0, ((Below.refl _ _).alloc (Nat.le_refl _) _).alloc (by simp) _⟩
  clear hb0 hm0 e1
  generalize hn : N.length = len at *
  have HN := Lib.hid hn
  clear hn
  have g1 : (((len : Nat) : Int) > 4096) = False := by simp; omega
  generalize hc : chk ⟨N, root⟩ = c
  have HC := Lib.hid hc
  clear hc
  go_enter Tryz.func81, Tryz.ntmps81
  go_wp2_with fail
  go_loopg [15, 4, 5] (len + 1) (fun k ct u4 u5 wr => ∃ i : Nat, i ≤ len ∧ k + i = len + 1 ∧ ct = .int .i64 i ∧ ChkI w N len a cap root w.heap.size (w.heap.size + 1) i wr)
  case atStart => exact ⟨0, Nat.zero_le _, rfl, rfl, hI⟩
  case round =>
    obtain ⟨i, hi, hk, rfl, hI⟩ := hrel
    by_cases hlt : i < len
    · obtain ⟨x, hx⟩ : ∃ x, N[i]? = some x := ⟨N[i]'(by have := HN.out; omega), List.getElem?_eq_getElem _⟩
      obtain ⟨b1, o1, rfl, hb1, x0, x1, x2⟩ := (hr.below hI.below).br hx
      have HX := Lib.hid hx
      clear hx
      have i0 : (0 : Int) ≤ (i : Int) := by omega
      have i1 : (i : Int) < (len : Int) := by omega
      have c0 := hI.blk.cell 0
      have c1 := hI.blk.cell 1
      simp at c0 c1
      have hm1 := hI.map.alloc (.cells #[.int .i64 x.var, .int .i64 x.low, .int .i64 x.high] 161)
      have hlk : ∀ n, (Instr.lookup 217 (.map (some (w.heap.size + 1))) (.agg #[.int .i64 x.var, .int .i64 x.low, .int .i64 x.high]) false).run Tryz.prog ((wr.alloc (.cells #[.int .i64 x.var, .int .i64 x.low, .int .i64 x.high] 161)).drewN n) = .ok (.bool (decide (x ∈ N.take i))) ((wr.alloc (.cells #[.int .i64 x.var, .int .i64 x.low, .int .i64 x.high] 161)).drewN n) := by
        intro n
        have h := (hm1.drewN n).lookup (P := Tryz.prog) Tryz.underlying217 key_br (.bool false) zero4 x
        rw [aget_seen] at h
        simp only [Br.val] at h
        rw [h]
        by_cases hx : x ∈ N.take i <;> simp [hx]
      go_upto_region 7 with fail
      go_cut [63] (fun c wx => c = .bool (bad1 i x (decide (x ∈ N.take i))) ∧ wx = (wr.alloc (.cells #[.int .i64 x.var, .int .i64 x.low, .int .i64 x.high] 161)))
      case first =>
        have hlk := hlk 0
        rw [World.drewN_zero] at hlk
        generalize hk : decide (x ∈ N.take i) = kk at *
        have HK := Lib.hid hk
        clear hk
        by_cases h1 : x.var < 0
        · go_wp2_with fail
          go_meet
          exact ⟨congrArg Value.bool (by simp [bad1, h1]), rfl⟩
        by_cases h2 : 63 < x.var
        · go_wp2_with fail
          go_meet
          exact ⟨congrArg Value.bool (by simp [bad1, h2]), rfl⟩
        by_cases h3 : x.low < 0
        · go_wp2_with fail
          go_meet
          exact ⟨congrArg Value.bool (by simp [bad1, h3]), rfl⟩
        by_cases h4 : x.high < 0
        · go_wp2_with fail
          go_meet
          exact ⟨congrArg Value.bool (by simp [bad1, h4]), rfl⟩
        by_cases h5 : (i : Int) + 1 < x.low
        · go_wp2_with fail
          go_meet
          exact ⟨congrArg Value.bool (by simp [bad1, h5]), rfl⟩
        by_cases h6 : (i : Int) + 1 < x.high
        · go_wp2_with fail
          go_meet
          exact ⟨congrArg Value.bool (by simp [bad1, h6]), rfl⟩
        by_cases h7 : x.low = x.high
        · have h7' : (x.low == x.high) = true := by simp [h7]
          have H7 := Lib.hid h7
          clear h7
          go_wp2_with fail
          go_meet
          exact ⟨congrArg Value.bool (by simp [bad1, H7.out]), rfl⟩
        · have h7' : (x.low == x.high) = false := by simp [h7]
          have H7 := Lib.hid h7
          have HB : Hid (bad1 i x kk = kk) := Lib.hid (by simp [bad1, h1, h2, h3, h4, h5, h6, h7])
          clear h7
          go_wp2_with fail
          go_meet
          exact ⟨congrArg Value.bool HB.out.symm, rfl⟩
      case rest =>
        obtain ⟨rfl, rfl⟩ := hcut
        by_cases hbad : bad1 i x (decide (x ∈ N.take i)) = true
        · rw [hbad]
          have hc : c = 20 := by
            rw [← HC.out]
            exact chk_bad (by have := HN.out; show N.length ≤ _; omega) (bad_not (d := ⟨N, root⟩) HX.out (.inl hbad))
          have hbl := hI.below.alloc (by exact hI.below.size) (.cells #[.int .i64 x.var, .int .i64 x.low, .int .i64 x.high] 161)
          clear hbad
          subst hc
          go_wp2_with fail
          go_ret
          exact ⟨rfl, hbl⟩
        · have hbad0 : bad1 i x (decide (x ∈ N.take i)) = false := by simpa using hbad
          have HB := Lib.hid hbad0
          rw [hbad0]
          clear hbad hbad0
          have HBx : x.low < (i : Int) + 2 ∧ x.high < (i : Int) + 2 ∧ 0 ≤ x.low ∧ 0 ≤ x.high := by
            have := HB.out
            simp [bad1] at this
            omega
          have hml := hI.below.size
          generalize hW : wr.alloc (.cells #[.int .i64 x.var, .int .i64 x.low, .int .i64 x.high] 161) = W1 at *
          have bW : Below wr.heap.size wr W1 := by rw [← hW]; exact (Below.refl _ _).alloc (Nat.le_refl _) _
          have hszW : wr.heap.size < W1.heap.size := by rw [← hW]; simp
          have hlW : w.heap.size < wr.heap.size := hI.blk.lt
          have kW : Blk W1 wr.heap.size #[.int .i64 x.var, .int .i64 x.low, .int .i64 x.high] 161 := by rw [← hW]; exact Blk.new _ _ _
          have kX := hI.blk.mod (Mod.of_below (S := fun _ => False) bW) (fun h => h)
          have rW := (hr.below hI.below).below bW
          have HW := Lib.hid hW
          clear hW hlk
          have lev : ∀ (W : Above W1) (n : Int), n < (len : Int) + 2 → Calls Tryz.prog 153 #[.agg #[.slice (some ⟨b1, o1, none⟩) len cap, .int .i64 root], .int .i64 n] W.val fun e w' => e = .returned (.int .i64 (levelN N n)) ∧ ∃ m : Above W1, w' = m.val := by
            intro W n hn
            have hN := HN.out
            subst hN
            exact (level_any N root n _ cap W.val (rW.below W.property) (by omega) hn).mono fun e w' h => W.call h
          have e0 := fun n : Above W1 => n.cell (kX.cell 0)
          have e1 := fun n : Above W1 => n.cell (kX.cell 1)
          have e2 := fun n : Above W1 => n.cell (kW.cell 0)
          have e3 := fun n : Above W1 => n.cell (kW.cell 1)
          have e4 := fun n : Above W1 => n.cell (kW.cell 2)
          have t1 : x.low < (len : Int) + 2 := by omega
          have t2 : x.high < (len : Int) + 2 := by omega
          clear x0 x1 x2 c0 c1
          go_upto_region 9 with fail
          go_cut [79] (fun c wx => c = .bool (bad2 N x) ∧ Below W1.heap.size W1 wx)
          case first => 
            by_cases hq : levelN N x.low ≤ x.var
            · have hq' : decide (levelN N x.low ≤ x.var) = true := by simp [hq]
              refine wp_region_cls (fun n : Above W1 => n.val) (Above.start W1) rfl (by kernel_rfl) (by kernel_rfl) ?_
              repeat (go_big_quiet_step (first | exact lev _ _ t1 | exact lev _ _ t2))
              refine wpQuiet_nil ?_
              intro _ hw'
              obtain ⟨nq, hw''⟩ := hw'
              subst hw''
              go_wp2_with fail
              go_meet
              exact ⟨congrArg Value.bool (by simp [bad2, hq]), nq.property⟩
            · have hq' : decide (levelN N x.low ≤ x.var) = false := by simp [hq]
              have HB2 : Hid (bad2 N x = decide (levelN N x.high ≤ x.var)) := Lib.hid (by simp [bad2, hq])
              refine wp_region_cls (fun n : Above W1 => n.val) (Above.start W1) rfl (by kernel_rfl) (by kernel_rfl) ?_
              repeat (go_big_quiet_step (first | exact lev _ _ t1 | exact lev _ _ t2))
              refine wpQuiet_nil ?_
              intro _ hw'
              obtain ⟨nq, hw''⟩ := hw'
              subst hw''
              go_wp2_with fail
              go_meet
              exact ⟨congrArg Value.bool HB2.out.symm, nq.property⟩
          case rest =>
            obtain ⟨rfl, hcut⟩ := hcut
            clear lev e0 e1 e2 e3 e4 t1 t2
            have bwc : Below w.heap.size w wc := hI.below.trans (bW.mono hml |>.trans (hcut.mono (by omega)))
            by_cases hbad : bad2 N x = true
            · rw [hbad]
              have hc : c = 20 := by
                rw [← HC.out]
                exact chk_bad (by have := HN.out; show N.length ≤ _; omega) (bad_not (d := ⟨N, root⟩) HX.out (.inr hbad))
              clear hbad
              subst hc
              go_wp2_with fail
              go_ret
              exact ⟨rfl, bwc⟩
            · have hbad0 : bad2 N x = false := by simpa using hbad
              have HB2 := Lib.hid hbad0
              rw [hbad0]
              clear hbad hbad0
              have m := Mod.of_below (S := fun _ => False) hcut
              have k2 := kW.mod m (fun h => h)
              have k1 := kX.mod m (fun h => h)
              have k3 := (hI.map.mod (Mod.of_below (S := fun _ => False) bW) (fun h => h)).mod m (fun h => h)
              have c0 := k2.cell 0
              have c1 := k2.cell 1
              have c2 := k2.cell 2
              simp at c0 c1 c2
              go_wp2_with (at_mapUpdate; refine wpList_mapUpdate_at (by rfl) 217 _ _ _ (by rfl) 161 4 Tryz.underlying217 key_br (w.heap.size + 1) (seenM (N.take i)) (by rfl) k3 x (by rfl) true (by rfl) ?_)
              intro w5 m2 m3 m4
              go_wp2_with fail
              have hiN : i < N.length := by have := HN.out; omega
              obtain ⟨ok, hk0⟩ := good_of (N := N) HB.out HB2.out
              have hts := take_succ_of HX.out
              have hxn : x ∉ N.take i := by simpa using hk0
              have hord : Ord (N.take i) := hI.ord
              have hnd : (N.take i).Nodup := hI.nd
              go_roundg (len - i)
              case measure => omega
              case rel =>
                refine ⟨i + 1, by omega, by omega, by go_num, ⟨?_, ?_, ?_, ?_, ?_⟩⟩
                · rw [hts]; exact hord.snoc (brOk_take (by omega) ok)
                · rw [hts, List.nodup_append]
                  exact ⟨hnd, by simp, fun a ha b hb => by simp at hb; subst hb; exact fun e => hxn (e ▸ ha)⟩
                · rw [hts, ← aset_seen _ _ hxn]; exact m2
                · exact k1.mod m3 (fun e => m2.ne_blk (k1.mod m3 (fun e => k3.ne_blk k1 e.symm)) e.symm)
                · exact bwc.trans (Mod.below (B := w.heap.size) m3 bwc.size (fun k hk e => by omega))
    · go_upto_region 13 with fail
      go_cut [94] (fun c wx => c = .bool (decide (root < 0) || decide ((len : Int) + 1 < root)) ∧ wx = wr)
      case first =>
        have c0 := hI.blk.cell 0
        have c1 := hI.blk.cell 1
        have hbl := hI.blk.lt
        simp at c0 c1
        by_cases h1 : root < 0
        · go_wp2_with fail
          go_meet
          exact ⟨congrArg Value.bool (by simp [h1]), rfl⟩
        by_cases h2 : (len : Int) + 1 < root
        · go_wp2_with fail
          go_meet
          exact ⟨congrArg Value.bool (by simp [h2]), rfl⟩
        · go_wp2_with fail
          go_meet
          exact ⟨congrArg Value.bool (by simp [h1, h2]), rfl⟩
      case rest =>
        obtain ⟨rfl, rfl⟩ := hcut
        have hii : i = len := by omega
        subst hii
        have hT : N.take i = N := List.take_of_length_le (by rw [HN.out]; exact Nat.le_refl _)
        have hord : Ord N := by rw [← hT]; exact hI.ord
        have hnd : N.Nodup := by rw [← hT]; exact hI.nd
        have hblk := hI.blk
        have bwc := hI.below
        clear hI hT
        by_cases hq : root < 0 ∨ (i : Int) + 1 < root
        · have hc : c = 20 := by
            rw [← HC.out]
            refine chk_bad (by have := HN.out; show N.length ≤ _; omega) (fun v => ?_)
            have a1 := v.r0
            have a2 := v.r1
            have := HN.out
            simp only at a1 a2
            omega
          have hb : (decide (root < 0) || decide ((i : Int) + 1 < root)) = true := by simpa using hq
          rw [hb]
          subst hc
          clear hb hq
          go_wp2_with fail
          go_ret
          exact ⟨rfl, bwc⟩
        · have hb : (decide (root < 0) || decide ((i : Int) + 1 < root)) = false := by
            rw [Bool.eq_false_iff]; intro h; exact hq (by simpa using h)
          rw [hb]
          have hr0 : 0 ≤ root ∧ root < (i : Int) + 2 := by omega
          clear hb hq
          have c0 := hblk.cell 0
          have c1 := hblk.cell 1
          simp at c0 c1
          have hbl := hblk.lt
          have hrw : ∀ o, Rd (wc.alloc o) a (brCells N) := fun o => (hr.below bwc).below ((Below.refl _ _).alloc (Nat.le_refl _) o)
          have hn := HN.out
          subst hn
          have hbl0 : (wc.alloc (.cells #[.slice a N.length cap, .map none] 222)).cell? ⟨wc.heap.size, 0, none⟩ = some (.slice a N.length cap) := by simp
          have hc : c = if decide (numbered N root = ⟨N, root⟩) = true then 0 else 20 := by
            rw [← HC.out]
            unfold chk
            rw [if_neg (by simpa using hl)]
            by_cases hv : Valid ⟨N, root⟩
            · rw [if_pos hv, if_pos (by simpa using hv.post)]
            · rw [if_neg hv, if_neg]
              intro h
              have h := of_decide_eq_true h
              exact hv (h ▸ numbered_valid hord hnd hr0.1 hr0.2)
          have HC2 := Lib.hid hc
          have hlN := numbered_len hord hr0.1 hr0.2
          clear hc
          go_wp2_with fail
          refine (bdiagram_any N hord (by omega) a cap _ root _ hr0.1 hr0.2 hbl0 (hrw _)).mono ?_
          rintro e w6 ⟨aD, capD, rfl, d1, d2, d3⟩
          have b6 : Below w.heap.size w w6 := (bwc.alloc bwc.size _).trans (d3.mono (by have := bwc.size; simp; omega))
          have k6 := (hblk.alloc (.cells #[.slice a N.length cap, .map none] 222)).mod (Mod.of_below (S := fun _ => False) d3) (fun h => h)
          have hr6 := hr.below b6
          have hb6 := k6.lt
          clear c0 c1
          have c0 := k6.cell 0
          have c1 := k6.cell 1
          simp at c0 c1
          generalize numbered N root = dd at *
          go_wp2_with fail
          have hs := same_any dd ⟨N, root⟩ aD a capD cap _ (by omega) (d1.below ((Below.refl _ _).alloc (Nat.le_refl _) (.cells #[.slice aD dd.nodes.length capD, .int .i64 dd.root] 42))) (hr6.below ((Below.refl _ _).alloc (Nat.le_refl _) _))
          have hc2 := HC2.out
          generalize decide (dd = ⟨N, root⟩) = q at hs hc2
          cases q
          · have hc3 : c = 20 := hc2
            clear hc2 HC HC2
            subst hc3
            refine hs.mono ?_
            rintro e w7 ⟨rfl, b7⟩
            have b67 : Below w.heap.size w w7 := (b6.alloc b6.size _).trans (b7.mono (by have := b6.size; simp; omega))
            go_wp2_with fail
            go_ret
            exact ⟨rfl, b67⟩
          · have hc3 : c = 0 := hc2
            clear hc2 HC HC2
            subst hc3
            refine hs.mono ?_
            rintro e w7 ⟨rfl, b7⟩
            have b67 : Below w.heap.size w w7 := (b6.alloc b6.size _).trans (b7.mono (by have := b6.size; simp; omega))
            go_wp2_with fail
            go_ret
            exact ⟨rfl, b67⟩

theorem check_any (d : Dg) (a : Option Addr) (cap : Nat) (w : World) (hr : Rd w a (brCells d.nodes)) :
    Calls Tryz.prog 81 #[.agg #[.slice a d.nodes.length cap, .int .i64 d.root]] w fun e w' => e = .returned (.int .i64 (chk d)) ∧ Below w.heap.size w w' := by
  by_cases hl : d.nodes.length ≤ 4096
  · exact check_loop d a cap w hr hl
  · have e : chk d = 2 := by unfold chk; rw [if_pos (by omega)]
    rw [e]
    generalize d.nodes.length = len at *
    have h1 : ((len : Int) > 4096) = True := by simp; omega
    go_enter Tryz.func81, Tryz.ntmps81
    go_wp2
    go_ret
    exact ⟨rfl, (Below.refl _ _).alloc (Nat.le_refl _) _⟩
end Go.Proofs.YtpekmohnjpbkgaaGreatDoor

namespace Go.Proofs.YtpekmohnjpbkgaaGreatDoor
open Go Go.RowKit
set_option maxHeartbeats 1000000
set_option maxRecDepth 100000
attribute [local go_sem ↓] Go.wp_at_zero Go.wp_at_succ

theorem and1_any (x y : Bool) (w : World) : Calls Tryz.prog 161 #[.bool x, .bool y] w fun e w' => e = .returned (.bool (x && y)) ∧ w' = w := by
  cases x <;> cases y
  all_goals
    go_enter Tryz.func161, Tryz.ntmps161
    go_wp2
    go_ret
    exact ⟨rfl, rfl⟩
theorem or1_any (x y : Bool) (w : World) : Calls Tryz.prog 106 #[.bool x, .bool y] w fun e w' => e = .returned (.bool (x || y)) ∧ w' = w := by
  cases x <;> cases y
  all_goals
    go_enter Tryz.func106, Tryz.ntmps106
    go_wp2
    go_ret
    exact ⟨rfl, rfl⟩
theorem not1_any (x y : Bool) (w : World) : Calls Tryz.prog 160 #[.bool x, .bool y] w fun e w' => e = .returned (.bool (!x)) ∧ w' = w := by
  cases x
  all_goals
    go_enter Tryz.func160, Tryz.ntmps160
    go_wp2
    go_ret
    exact ⟨rfl, rfl⟩

/-- A function value of two Booleans. -/
def IsBin (fo : Nat) (f : Bool → Bool → Bool) : Prop :=
  (∀ args w, (callFunc fo args).run Tryz.prog w = .ok (.enter fo args) w) ∧ ∀ x y w, Calls Tryz.prog fo #[.bool x, .bool y] w fun e w' => e = .returned (.bool (f x y)) ∧ w' = w

theorem isBin_and : IsBin 161 (fun x y => x && y) := ⟨fun _ _ => by kernel_rfl, and1_any⟩
theorem isBin_or : IsBin 106 (fun x y => x || y) := ⟨fun _ _ => by kernel_rfl, or1_any⟩
theorem isBin_not : IsBin 160 (fun x _ => !x) := ⟨fun _ _ => by kernel_rfl, not1_any⟩

theorem binary1_any (fo : Nat) (f : Bool → Bool → Bool) (hf : IsBin fo f) (k : Nat) (W : World) (hk : W.cell? ⟨k, 0, none⟩ = some (.func (.func fo) #[] #[])) (x y z : Bool) :
    Calls Tryz.prog 176 #[.bool x, .bool y, .bool z, .pointer (some ⟨k, 0, none⟩)] W fun e w' => e = .returned (.bool (f x y)) ∧ W = w' := by
  have hcf := hf.1
  go_enter Tryz.func176, Tryz.ntmps176
  go_wp2_with fail
  refine (hf.2 x y W).mono ?_
  rintro e w1 ⟨rfl, rfl⟩
  go_wp2_with fail
  go_ret
  exact ⟨rfl, rfl⟩

theorem isOp_binary (fo : Nat) (f : Bool → Bool → Bool) (hf : IsBin fo f) (k : Nat) (w0 : World) (hk : w0.cell? ⟨k, 0, none⟩ = some (.func (.func fo) #[] #[])) :
    IsOp w0 176 #[.pointer (some ⟨k, 0, none⟩)] (fun x y _ => f x y) := by
  refine ⟨fun _ _ => by kernel_rfl, fun W hW x y z => ?_⟩
  exact binary1_any fo f hf k W (by rw [hW.cell (p := ⟨k, 0, none⟩) (lt_of_cell hk)]; exact hk) x y z

/-- A set that is handed in. -/
structure DA where
  d : Dg
  a : Option Addr
  cap : Nat
def DA.val (x : DA) : Value := .agg #[.slice x.a x.d.nodes.length x.cap, .int .i64 x.d.root]
def DA.cells (x : DA) : List Value := [.slice x.a x.d.nodes.length x.cap, .int .i64 x.d.root]
def DA.ok (w : World) (x : DA) : Prop := Rd w x.a (brCells x.d.nodes)
theorem DA.ok.below {w w' : World} {x : DA} (h : x.ok w) (hb : Below w.heap.size w w') : x.ok w' := Rd.below h hb
def daCells (l : List DA) : List Value := l.flatMap DA.cells

noncomputable def chks : List Dg → Int
  | [] => 0
  | d :: l => if chk d = 0 then chks l else chk d

theorem flat2 {α : Type} (f : α → List Value) (hf : ∀ x, (f x).length = 2) (l : List α) (i k : Nat) (hk : k < 2) : (l.flatMap f)[i * 2 + k]? = (l[i]?).bind fun x => (f x)[k]? := by
  induction l generalizing i with
  | nil => simp
  | cons x l ih =>
    rw [List.flatMap_cons]
    cases i with
    | zero => simp [List.getElem?_append_left (show k < (f x).length by rw [hf]; exact hk)]
    | succ i =>
      rw [List.getElem?_append_right (by rw [hf]; omega), hf, show (i + 1) * 2 + k - 2 = i * 2 + k by omega, ih]
      simp

theorem Rd.da {w : World} {a : Option Addr} {L : List DA} (h : Rd w a (daCells L)) {i : Nat} {x : DA} (hi : L[i]? = some x) :
    ∃ b o, a = some ⟨b, o, none⟩ ∧ b < w.heap.size ∧ w.cell? ⟨b, o + i * 2, none⟩ = some (.slice x.a x.d.nodes.length x.cap) ∧ w.cell? ⟨b, o + i * 2 + 1, none⟩ = some (.int .i64 x.d.root) := by
  have key := fun k hk => flat2 DA.cells (fun _ => rfl) L i k hk
  have h0 := key 0 (by omega)
  have h1 := key 1 (by omega)
  rw [hi] at h0 h1
  obtain ⟨b, o, ha, hlt, c0⟩ := h _ _ h0
  obtain ⟨b1, o1, ha1, _, c1⟩ := h _ _ h1
  rw [ha] at ha1
  cases ha1
  exact ⟨b, o, ha, hlt, c0, by rw [Nat.add_assoc]; exact c1⟩

theorem chks_bad {L : List Dg} {i : Nat} {x : Dg} (h0 : ∀ (j : Nat) (y : Dg), j < i → L[j]? = some y → chk y = 0) (hx : L[i]? = some x) (hb : chk x ≠ 0) : chks L = chk x := by
  induction L generalizing i with
  | nil => simp at hx
  | cons d L ih =>
    cases i with
    | zero =>
      simp at hx
      subst hx
      simp [chks, hb]
    | succ i =>
      have := h0 0 d (by omega) rfl
      simp only [chks, this, if_true]
      exact ih (i := i) (fun j y hj hy => h0 (j + 1) y (by omega) (by simpa using hy)) (by simpa using hx)
theorem chks_good {L : List Dg} (h0 : ∀ (j : Nat) (y : Dg), L[j]? = some y → chk y = 0) : chks L = 0 := by
  induction L with
  | nil => rfl
  | cons d L ih =>
    have := h0 0 d rfl
    simp only [chks, this, if_true]
    exact ih (fun j y hy => h0 (j + 1) y (by simpa using hy))

theorem checks_any (L : List DA) (a : Option Addr) (cap : Nat) (w : World) (hr : Rd w a (daCells L)) (ho : ∀ x ∈ L, x.ok w) (hl : L.length ≤ 4096) :
    Calls Tryz.prog 103 #[.slice a L.length cap] w fun e w' => e = .returned (.int .i64 (chks (L.map DA.d))) ∧ Below w.heap.size w w' := by
  generalize hn : L.length = len at *
  have HN := Lib.hid hn
  clear hn
  generalize hc : chks (L.map DA.d) = c
  have HC := Lib.hid hc
  clear hc
  go_enter Tryz.func103, Tryz.ntmps103
  go_wp2_with fail
  go_loopg [8, 4, 5] (len + 1) (fun k ct u4 u5 wr => ∃ i : Nat, i ≤ len ∧ k + i = len + 1 ∧ ct = .int .i64 i ∧ (∀ j y, j < i → L[j]? = some y → chk y.d = 0) ∧ Below w.heap.size w wr)
  case atStart => exact ⟨0, Nat.zero_le _, rfl, rfl, fun j y h => by omega, Below.refl _ _⟩
  case round =>
    obtain ⟨i, hi, hk, rfl, hb, hbel⟩ := hrel
    by_cases hlt : i < len
    · obtain ⟨x, hx⟩ : ∃ x, L[i]? = some x := ⟨L[i]'(by have := HN.out; omega), List.getElem?_eq_getElem _⟩
      obtain ⟨b1, o1, rfl, hb1, x0, x1⟩ := (hr.below hbel).da hx
      have hxo := (ho x (List.mem_of_getElem? hx)).below hbel
      have HX := Lib.hid hx
      have HB := Lib.hid hb
      clear hx hb
      have i0 : (0 : Int) ≤ (i : Int) := by omega
      have i1 : (i : Int) < (len : Int) := by omega
      go_wp2_with fail
      refine (check_any x.d x.a x.cap _ (hxo.below ((Below.refl _ _).alloc (Nat.le_refl _) _))).mono ?_
      rintro e w2 ⟨rfl, b2⟩
      have b3 : Below w.heap.size w w2 := (hbel.alloc hbel.size _).trans (b2.mono (by have := hbel.size; simp; omega))
      by_cases hq : chk x.d = 0
      · rw [hq]
        have HQ := Lib.hid hq
        clear hq
        go_wp2_with fail
        go_roundg (len - i)
        case measure => omega
        case rel =>
          refine ⟨i + 1, by omega, by omega, by go_num, fun j y hj hy => ?_, b3⟩
          by_cases hji : j < i
          · exact HB.out j y hji hy
          · have : j = i := by omega
            subst this
            rw [HX.out] at hy
            cases hy
            exact HQ.out
      · have hc : c = chk x.d := by
          rw [← HC.out]
          refine chks_bad (i := i) (fun j y hj hy => ?_) (by rw [List.getElem?_map, HX.out]; rfl) hq
          rw [List.getElem?_map] at hy
          obtain ⟨z, hz, rfl⟩ := Option.map_eq_some_iff.1 hy
          exact HB.out j z hj hz
        subst hc
        clear HC
        have hq' : (chk x.d != 0) = true := by rw [bne_iff_ne]; exact hq
        clear hq
        go_wp2_with fail
        go_ret
        exact ⟨rfl, b3⟩
    · have hc : c = 0 := by
        rw [← HC.out]
        refine chks_good (fun j y hy => ?_)
        rw [List.getElem?_map] at hy
        obtain ⟨z, hz, rfl⟩ := Option.map_eq_some_iff.1 hy
        have := (List.getElem?_eq_some_iff.1 hz).1
        have := HN.out
        exact hb j z (by omega) hz
      clear hb
      subst hc
      go_wp2_with fail
      go_ret
      exact ⟨rfl, hbel⟩
end Go.Proofs.YtpekmohnjpbkgaaGreatDoor

namespace Go.Proofs.YtpekmohnjpbkgaaGreatDoor
open Go Go.RowKit
set_option maxHeartbeats 1000000
set_option maxRecDepth 100000
attribute [local go_sem ↓] Go.wp_at_zero Go.wp_at_succ

theorem limited_any (x : DA) (w : World) : Calls Tryz.prog 174 #[x.val] w fun e w' =>
    e = .returned (.tuple #[if 4096 < x.d.nodes.length then .agg #[.slice none 0 0, .int .i64 0] else x.val, .int .i64 (if 4096 < x.d.nodes.length then 2 else 0)]) ∧ Below w.heap.size w w' := by
  obtain ⟨⟨N, root⟩, a, cap⟩ := x
  simp only [DA.val]
  generalize N.length = len
  by_cases h : 4096 < len
  · rw [if_pos h, if_pos h]
    have h1 : ((len : Int) > 4096) = True := by simp; omega
    go_enter Tryz.func174, Tryz.ntmps174
    go_wp2
    refine bodyPost_ret (v := .tuple #[.agg #[.slice none 0 0, .int .i64 0], .int .i64 2]) (by simp [results, Tryz.results174, go_sem]) rfl ⟨rfl, ?_⟩
    exact Mod.below (S := fun k => w.heap.size ≤ k) ((((Mod.refl _ _).alloc _).alloc _)) (Nat.le_refl _) (fun k hk h => by omega)
  · rw [if_neg h, if_neg h]
    have h1 : ((len : Int) > 4096) = False := by simp; omega
    go_enter Tryz.func174, Tryz.ntmps174
    go_wp2
    refine bodyPost_ret (v := .tuple #[.agg #[.slice a len cap, .int .i64 root], .int .i64 0]) (by simp [results, Tryz.results174, go_sem]) rfl ⟨rfl, ?_⟩
    exact Mod.below (S := fun k => w.heap.size ≤ k) ((((Mod.refl _ _).alloc _).alloc _)) (Nat.le_refl _) (fun k hk h => by omega)

/-- A set and a code that a call has made. -/
def DgPost2 (w : World) (d : Dg) (c : Int) (e : Ending) (w' : World) : Prop :=
  ∃ a cap, e = .returned (.tuple #[.agg #[.slice a d.nodes.length cap, .int .i64 d.root], .int .i64 c]) ∧ Rd w' a (brCells d.nodes) ∧ (∀ b o, a = some ⟨b, o, none⟩ → w.heap.size ≤ b) ∧ Below w.heap.size w w'

/-- What binary answers. -/
noncomputable def binD (f : Bool → Bool → Bool) (x y : Dg) : Dg × Int :=
  if chks [x, y] ≠ 0 then (⟨[], 0⟩, chks [x, y]) else
  if 4096 < (comb (fun a b _ => f a b) x y ⟨[], 0⟩).nodes.length then (⟨[], 0⟩, 2) else (comb (fun a b _ => f a b) x y ⟨[], 0⟩, 0)

theorem valid_empty : Valid ⟨[], 0⟩ := ⟨Ord.nil, by simp, by simp, by simp, rfl⟩
theorem chk_zero {d : Dg} (h : chk d = 0) : Valid d ∧ d.nodes.length ≤ 4096 := by
  unfold chk at h
  split at h
  · omega
  · split at h
    · exact ⟨by assumption, by omega⟩
    · omega
theorem chks_two {x y : Dg} (h : chks [x, y] = 0) : chk x = 0 ∧ chk y = 0 := by
  simp only [chks] at h
  split at h
  · split at h
    · exact ⟨by assumption, by assumption⟩
    · exact absurd h (by assumption)
  · exact absurd h (by assumption)

def binObjs (x y : DA) (fo : Nat) : List Obj :=
  [.cells #[.slice x.a x.d.nodes.length x.cap, .int .i64 x.d.root] 42, .cells #[.slice y.a y.d.nodes.length y.cap, .int .i64 y.d.root] 42, .cells #[.func (.func fo) #[] #[]] 165,
   .cells #[.slice none 0 0, .int .i64 0] 42, .cells #[.slice x.a x.d.nodes.length x.cap, .int .i64 x.d.root, .slice y.a y.d.nodes.length y.cap, .int .i64 y.d.root] 42]

theorem rd_two {w : World} {k : Nat} {x y : DA} (h : Blk w k #[.slice x.a x.d.nodes.length x.cap, .int .i64 x.d.root, .slice y.a y.d.nodes.length y.cap, .int .i64 y.d.root] 42) : Rd w (some ⟨k, 0, none⟩) (daCells [x, y]) := by
  intro j u hj
  refine ⟨k, 0, rfl, h.lt, ?_⟩
  rw [Nat.zero_add, h.cell j]
  rw [← hj, ← Array.getElem?_toList]
  rfl

theorem below_two {w w4 : World} {k : Nat} (bel : Below w.heap.size w w4) (hk : w.heap.size ≤ k) (u v : Value) : Below w.heap.size w ((w4.setCell ⟨k, 0, none⟩ u).setCell ⟨k, 1, none⟩ v) :=
  Mod.below (S := fun k => w.heap.size ≤ k) (((Mod.of_below bel).setCell (p := ⟨k, 0, none⟩) (.inl hk) u).setCell (p := ⟨k, 1, none⟩) (.inl hk) v) (Nat.le_refl _) (fun k hk h => by omega)
theorem rd_two_stores {w4 : World} {k : Nat} {a : Option Addr} {cs : List Value} (rd : Rd w4 a cs) (hne : ∀ b o, a = some ⟨b, o, none⟩ → b ≠ k) (u v : Value) : Rd ((w4.setCell ⟨k, 0, none⟩ u).setCell ⟨k, 1, none⟩ v) a cs :=
  rd.mod (S := fun j => j = k) (((Mod.refl (fun j => j = k) w4).setCell (p := ⟨k, 0, none⟩) (.inl rfl) u).setCell (p := ⟨k, 1, none⟩) (.inl rfl) v) (fun b o e _ => hne b o e)

theorem binary_any (x y : DA) (fo : Nat) (f : Bool → Bool → Bool) (hf : IsBin fo f) (w : World) (hx : x.ok w) (hy : y.ok w) :
    Calls Tryz.prog 105 #[x.val, y.val, .func (.func fo) #[] #[]] w (DgPost2 w (binD f x.d y.d).1 (binD f x.d y.d).2) := by
  have hmf : ∀ (fn : Fn) (first cap : Array Value) (w : World), (Instr.makeFunc fn first cap).run Tryz.prog w = .ok (.func fn first cap) w := fun _ _ _ _ => rfl
  have g := allocs_get (binObjs x y fo) w
  have hb := allocs_below (binObjs x y fo) w
  have hsz := allocs_size (binObjs x y fo) w
  have c5 : Blk ((binObjs x y fo).foldl World.alloc w) (w.heap.size + 1 + 1 + 1 + 1) #[.slice x.a x.d.nodes.length x.cap, .int .i64 x.d.root, .slice y.a y.d.nodes.length y.cap, .int .i64 y.d.root] 42 := g 4 _ rfl
  have c0 : Blk ((binObjs x y fo).foldl World.alloc w) w.heap.size #[.slice x.a x.d.nodes.length x.cap, .int .i64 x.d.root] 42 := g 0 _ rfl
  have c1 : Blk ((binObjs x y fo).foldl World.alloc w) (w.heap.size + 1) #[.slice y.a y.d.nodes.length y.cap, .int .i64 y.d.root] 42 := g 1 _ rfl
  have c2 : Blk ((binObjs x y fo).foldl World.alloc w) (w.heap.size + 1 + 1) #[.func (.func fo) #[] #[]] 165 := g 2 _ rfl
  have c3 : Blk ((binObjs x y fo).foldl World.alloc w) (w.heap.size + 1 + 1 + 1) #[.slice none 0 0, .int .i64 0] 42 := g 3 _ rfl
  have ck := checks_any [x, y] (some ⟨w.heap.size + 1 + 1 + 1 + 1, 0, none⟩) 2 _ (rd_two c5) (by
    intro z hz
    simp at hz
    rcases hz with rfl | rfl
    · exact hx.below hb
    · exact hy.below hb) (by simp)
  obtain ⟨⟨xn, xr⟩, xa, xc⟩ := x
  obtain ⟨⟨yn, yr⟩, ya, yc⟩ := y
  simp only [DA.val, DA.ok, List.map_cons, List.map_nil, List.length_cons, List.length_nil] at *
  generalize hos : (binObjs ⟨⟨xn, xr⟩, xa, xc⟩ ⟨⟨yn, yr⟩, ya, yc⟩ fo).foldl World.alloc w = W5 at *
  simp only [binObjs, List.foldl_cons, List.foldl_nil, List.length_cons, List.length_nil] at hos hsz
  have HO := Lib.hid hos
  clear hos
  have hlt : w.heap.size + 4 < W5.heap.size := by omega
  clear hsz g
  generalize hr : binD f ⟨xn, xr⟩ ⟨yn, yr⟩ = r
  have HR := Lib.hid hr
  clear hr
  go_enter Tryz.func105, Tryz.ntmps105
  go_wp2_with fail
  rw [HO.out]
  refine ck.mono ?_
  rintro e w2 ⟨rfl, b2⟩
  have m2 := Mod.of_below (S := fun _ => False) b2
  have d0 := c0.mod m2 (fun h => h)
  have d1 := c1.mod m2 (fun h => h)
  have d2 := c2.mod m2 (fun h => h)
  have d3 := c3.mod m2 (fun h => h)
  clear c0 c1 c2 c3 c5 ck HO
  by_cases hq : chks [⟨xn, xr⟩, ⟨yn, yr⟩] = 0
  · rw [hq]
    obtain ⟨h1, h2⟩ := chks_two hq
    obtain ⟨v1, l1⟩ := chk_zero h1
    obtain ⟨v2, l2⟩ := chk_zero h2
    have rx := (hx.below hb).below b2
    have ry := (hy.below hb).below b2
    have rz := Rd.nil w2 none
    have e0 := d0.cell 0
    have e1 := d0.cell 1
    have e2 := d1.cell 0
    have e3 := d1.cell 1
    have e4 := d2.cell 0
    simp at e0 e1 e2 e3 e4
    have cmb := combine_valid w2 ⟨xn, xr⟩ ⟨yn, yr⟩ ⟨[], 0⟩ v1 v2 valid_empty l1 l2 (by simp) xa ya none rx ry rz xc yc 0 176 _ _ (isOp_binary fo f hf (w.heap.size + 1 + 1) w2 e4)
    have hl2 := b2.size
    simp only [List.length_nil] at cmb
    have hr : r = if 4096 < (comb (fun a b _ => f a b) ⟨xn, xr⟩ ⟨yn, yr⟩ ⟨[], 0⟩).nodes.length then (⟨[], 0⟩, 2) else (comb (fun a b _ => f a b) ⟨xn, xr⟩ ⟨yn, yr⟩ ⟨[], 0⟩, 0) := by
      rw [← HR.out]
      unfold binD
      rw [if_neg (by simpa using hq)]
    have HR2 := Lib.hid hr
    clear hr HR
    clear hq h1 h2
    go_wp2_with fail
    refine cmb.mono ?_
    clear cmb
    rintro e w3 ⟨aD, capD, rfl, p1, p2, p3⟩
    generalize comb (fun a b _ => f a b) ⟨xn, xr⟩ ⟨yn, yr⟩ ⟨[], 0⟩ = dd at *
    go_wp2_with fail
    refine (limited_any ⟨dd, aD, capD⟩ w3).mono ?_
    rintro e w4 ⟨rfl, b4⟩
    have m3 := Mod.of_below (S := fun _ => False) p3
    have m4 := Mod.of_below (S := fun _ => False) b4
    have k3 := (d3.mod m3 (fun h => h)).mod m4 (fun h => h)
    have bel : Below w.heap.size w w4 := hb.trans ((b2.trans (p3.mono b2.size |>.trans (b4.mono (by have := p3.size; omega)))).mono (by omega))
    have hk3 := k3.lt
    have fr0 := k3.frozen 0
    have fr1 := k3.frozen 1
    have z0 := k3.cell 0
    have z1 := k3.cell 1
    simp at z0 z1
    simp only [DA.val]
    by_cases hq : 4096 < dd.nodes.length
    · rw [if_pos hq, if_pos hq]
      have hr2 := HR2.out
      rw [if_pos hq] at hr2
      subst hr2
      clear hq HR2
      go_wp2_with fail
      exact bodyPost_ret (v := .tuple #[.agg #[.slice none 0 0, .int .i64 0], .int .i64 2]) (by simp [results, Tryz.results105, go_sem, z0, z1]) rfl ⟨none, 0, rfl, Rd.nil _ _, (fun b o e => by cases e), below_two bel (by omega) _ _⟩
    · rw [if_neg hq, if_neg hq]
      have hr2 := HR2.out
      rw [if_neg hq] at hr2
      subst hr2
      clear hq HR2
      go_wp2_with fail
      have hf1 : ∀ b o, aD = some ⟨b, o, none⟩ → w.heap.size + 5 ≤ b := fun b o e => by have := p2 b o e; omega
      exact bodyPost_ret (v := .tuple #[.agg #[.slice aD dd.nodes.length capD, .int .i64 dd.root], .int .i64 0]) (by simp [results, Tryz.results105, go_sem, z0, z1]) rfl ⟨aD, capD, rfl, rd_two_stores (p1.below b4) (fun b o e => by have := hf1 b o e; omega) _ _, fun b o e => by have := hf1 b o e; omega, below_two bel (by omega) _ _⟩
  · have hr : r = (⟨[], 0⟩, chks [⟨xn, xr⟩, ⟨yn, yr⟩]) := by
      rw [← HR.out]
      unfold binD
      rw [if_pos (by simpa using hq)]
    clear HR
    subst hr
    have hq' : (chks [⟨xn, xr⟩, ⟨yn, yr⟩] != 0) = true := by rw [bne_iff_ne]; exact hq
    clear hq
    have hk3 := d3.lt
    have fr0 := d3.frozen 0
    have fr1 := d3.frozen 1
    have z0 := d3.cell 0
    have z1 := d3.cell 1
    simp at z0 z1
    go_wp2_with fail
    exact bodyPost_ret (v := .tuple #[.agg #[.slice none 0 0, .int .i64 0], .int .i64 (chks [⟨xn, xr⟩, ⟨yn, yr⟩])]) (by simp [results, Tryz.results105, go_sem, z0, z1]) rfl ⟨none, 0, rfl, Rd.nil _ _, (fun b o e => by cases e), below_two (hb.trans (b2.mono (by omega))) (by omega) _ _⟩

theorem and_any (x y : DA) (w : World) (hx : x.ok w) (hy : y.ok w) :
    Calls Tryz.prog 91 #[x.val, y.val] w (DgPost2 w (binD (fun a b => a && b) x.d y.d).1 (binD (fun a b => a && b) x.d y.d).2) := by
  have hb : Below w.heap.size w (((w.alloc (.cells #[.slice x.a x.d.nodes.length x.cap, .int .i64 x.d.root] 42)).alloc (.cells #[.slice y.a y.d.nodes.length y.cap, .int .i64 y.d.root] 42)).alloc (.cells #[.slice none 0 0, .int .i64 0] 42)) :=
    Mod.below (S := fun k => w.heap.size ≤ k) ((((Mod.refl _ _).alloc _).alloc _).alloc _) (Nat.le_refl _) (fun k hk h => by omega)
  have bn := binary_any x y 161 _ isBin_and _ (hx.below hb) (hy.below hb)
  have k0 := Blk.new ((w.alloc (.cells #[.slice x.a x.d.nodes.length x.cap, .int .i64 x.d.root] 42)).alloc (.cells #[.slice y.a y.d.nodes.length y.cap, .int .i64 y.d.root] 42)) #[.slice none 0 0, .int .i64 0] 42
  generalize binD (fun a b => a && b) x.d y.d = r at *
  obtain ⟨⟨xn, xr⟩, xa, xc⟩ := x
  obtain ⟨⟨yn, yr⟩, ya, yc⟩ := y
  simp only [DA.val, DA.ok, World.size_alloc] at *
  go_enter Tryz.func91, Tryz.ntmps91
  go_wp2_with fail
  refine bn.mono ?_
  clear bn
  rintro e w3 ⟨aD, capD, rfl, p1, p2, p3⟩
  have k3 := k0.mod (Mod.of_below (S := fun _ => False) p3) (fun h => h)
  have hk3 := k3.lt
  have fr0 := k3.frozen 0
  have fr1 := k3.frozen 1
  have z0 := k3.cell 0
  have z1 := k3.cell 1
  simp at z0 z1
  have hsz : w.heap.size + 1 + 1 + 1 ≤ (((w.alloc (.cells #[.slice xa xn.length xc, .int .i64 xr] 42)).alloc (.cells #[.slice ya yn.length yc, .int .i64 yr] 42)).alloc (.cells #[.slice none 0 0, .int .i64 0] 42)).heap.size := by simp
  have bel := hb.trans (p3.mono (by omega))
  clear k0 hb p3
  go_wp2_with fail
  have hf1 : ∀ b o, aD = some ⟨b, o, none⟩ → w.heap.size + 1 + 1 + 1 ≤ b := fun b o e => by have := p2 b o e; omega
  exact bodyPost_ret (v := .tuple #[.agg #[.slice aD r.1.nodes.length capD, .int .i64 r.1.root], .int .i64 r.2]) (by simp [results, Tryz.results91, go_sem, z0, z1]) rfl ⟨aD, capD, rfl, rd_two_stores p1 (fun b o e => by have := hf1 b o e; omega) _ _, fun b o e => by have := hf1 b o e; omega, below_two bel (by omega) _ _⟩
theorem or_any (x y : DA) (w : World) (hx : x.ok w) (hy : y.ok w) :
    Calls Tryz.prog 54 #[x.val, y.val] w (DgPost2 w (binD (fun a b => a || b) x.d y.d).1 (binD (fun a b => a || b) x.d y.d).2) := by
  have hb : Below w.heap.size w (((w.alloc (.cells #[.slice x.a x.d.nodes.length x.cap, .int .i64 x.d.root] 42)).alloc (.cells #[.slice y.a y.d.nodes.length y.cap, .int .i64 y.d.root] 42)).alloc (.cells #[.slice none 0 0, .int .i64 0] 42)) :=
    Mod.below (S := fun k => w.heap.size ≤ k) ((((Mod.refl _ _).alloc _).alloc _).alloc _) (Nat.le_refl _) (fun k hk h => by omega)
  have bn := binary_any x y 106 _ isBin_or _ (hx.below hb) (hy.below hb)
  have k0 := Blk.new ((w.alloc (.cells #[.slice x.a x.d.nodes.length x.cap, .int .i64 x.d.root] 42)).alloc (.cells #[.slice y.a y.d.nodes.length y.cap, .int .i64 y.d.root] 42)) #[.slice none 0 0, .int .i64 0] 42
  generalize binD (fun a b => a || b) x.d y.d = r at *
  obtain ⟨⟨xn, xr⟩, xa, xc⟩ := x
  obtain ⟨⟨yn, yr⟩, ya, yc⟩ := y
  simp only [DA.val, DA.ok, World.size_alloc] at *
  go_enter Tryz.func54, Tryz.ntmps54
  go_wp2_with fail
  refine bn.mono ?_
  clear bn
  rintro e w3 ⟨aD, capD, rfl, p1, p2, p3⟩
  have k3 := k0.mod (Mod.of_below (S := fun _ => False) p3) (fun h => h)
  have hk3 := k3.lt
  have fr0 := k3.frozen 0
  have fr1 := k3.frozen 1
  have z0 := k3.cell 0
  have z1 := k3.cell 1
  simp at z0 z1
  have hsz : w.heap.size + 1 + 1 + 1 ≤ (((w.alloc (.cells #[.slice xa xn.length xc, .int .i64 xr] 42)).alloc (.cells #[.slice ya yn.length yc, .int .i64 yr] 42)).alloc (.cells #[.slice none 0 0, .int .i64 0] 42)).heap.size := by simp
  have bel := hb.trans (p3.mono (by omega))
  clear k0 hb p3
  go_wp2_with fail
  have hf1 : ∀ b o, aD = some ⟨b, o, none⟩ → w.heap.size + 1 + 1 + 1 ≤ b := fun b o e => by have := p2 b o e; omega
  exact bodyPost_ret (v := .tuple #[.agg #[.slice aD r.1.nodes.length capD, .int .i64 r.1.root], .int .i64 r.2]) (by simp [results, Tryz.results54, go_sem, z0, z1]) rfl ⟨aD, capD, rfl, rd_two_stores p1 (fun b o e => by have := hf1 b o e; omega) _ _, fun b o e => by have := hf1 b o e; omega, below_two bel (by omega) _ _⟩
theorem not_any (x : DA) (w : World) (hx : x.ok w) :
    Calls Tryz.prog 90 #[x.val] w (DgPost2 w (binD (fun a _ => !a) x.d ⟨[], 0⟩).1 (binD (fun a _ => !a) x.d ⟨[], 0⟩).2) := by
  have hb : Below w.heap.size w ((w.alloc (.cells #[.slice x.a x.d.nodes.length x.cap, .int .i64 x.d.root] 42)).alloc (.cells #[.slice none 0 0, .int .i64 0] 42)) :=
    Mod.below (S := fun k => w.heap.size ≤ k) (((Mod.refl _ _).alloc _).alloc _) (Nat.le_refl _) (fun k hk h => by omega)
  have bn := binary_any x ⟨⟨[], 0⟩, none, 0⟩ 160 _ isBin_not _ (hx.below hb) (Rd.nil _ _)
  have k0 := Blk.new (w.alloc (.cells #[.slice x.a x.d.nodes.length x.cap, .int .i64 x.d.root] 42)) #[.slice none 0 0, .int .i64 0] 42
  simp only at bn
  generalize binD (fun a _ => !a) x.d ⟨[], 0⟩ = r at *
  obtain ⟨⟨xn, xr⟩, xa, xc⟩ := x
  simp only [DA.val, DA.ok, World.size_alloc, List.length_nil] at *
  go_enter Tryz.func90, Tryz.ntmps90
  go_wp2_with fail
  refine bn.mono ?_
  clear bn
  rintro e w3 ⟨aD, capD, rfl, p1, p2, p3⟩
  have k3 := k0.mod (Mod.of_below (S := fun _ => False) p3) (fun h => h)
  have hk3 := k3.lt
  have fr0 := k3.frozen 0
  have fr1 := k3.frozen 1
  have z0 := k3.cell 0
  have z1 := k3.cell 1
  simp at z0 z1
  have hsz : w.heap.size + 1 + 1 ≤ ((w.alloc (.cells #[.slice xa xn.length xc, .int .i64 xr] 42)).alloc (.cells #[.slice none 0 0, .int .i64 0] 42)).heap.size := by simp
  have bel := hb.trans (p3.mono (by omega))
  clear k0 hb p3
  go_wp2_with fail
  have hf1 : ∀ b o, aD = some ⟨b, o, none⟩ → w.heap.size + 1 + 1 ≤ b := fun b o e => by have := p2 b o e; omega
  exact bodyPost_ret (v := .tuple #[.agg #[.slice aD r.1.nodes.length capD, .int .i64 r.1.root], .int .i64 r.2]) (by simp [results, Tryz.results90, go_sem, z0, z1]) rfl ⟨aD, capD, rfl, rd_two_stores p1 (fun b o e => by have := hf1 b o e; omega) _ _, fun b o e => by have := hf1 b o e; omega, below_two bel (by omega) _ _⟩
end Go.Proofs.YtpekmohnjpbkgaaGreatDoor

namespace Go.Proofs.YtpekmohnjpbkgaaGreatDoor
open Go Go.RowKit
set_option maxHeartbeats 1000000
set_option maxRecDepth 100000
attribute [local go_sem ↓] Go.wp_at_zero Go.wp_at_succ

def varD (n : Int) : Dg := ⟨[⟨n, 0, 1⟩], 2⟩
def varR (n : Int) : Dg × Int := if n < 0 ∨ 63 < n then (⟨[], 0⟩, 1) else (varD n, 0)

theorem rd_one {w : World} {k : Nat} {b : Br} (h : Blk w k #[.int .i64 b.var, .int .i64 b.low, .int .i64 b.high] 161) : Rd w (some ⟨k, 0, none⟩) (brCells [b]) := by
  intro j u hj
  refine ⟨k, 0, rfl, h.lt, ?_⟩
  rw [Nat.zero_add, h.cell j, ← hj, ← Array.getElem?_toList]
  rfl

theorem var_any (n : Int) (w : World) : Calls Tryz.prog 89 #[.int .i64 n] w (DgPost2 w (varR n).1 (varR n).2) := by
  have hb : ∀ o, Below w.heap.size w ((w.alloc (.cells #[.slice none 0 0, .int .i64 0] 42)).alloc o) := fun o =>
    Mod.below (S := fun k => w.heap.size ≤ k) (((Mod.refl _ _).alloc _).alloc _) (Nat.le_refl _) (fun k hk h => by omega)
  have bad : (n < 0 ∨ 63 < n) → varR n = (⟨[], 0⟩, 1) := fun h => by unfold varR; rw [if_pos h]
  by_cases h1 : n < 0
  · rw [bad (.inl h1)]
    clear bad
    go_enter Tryz.func89, Tryz.ntmps89
    go_wp2
    exact bodyPost_ret (v := .tuple #[.agg #[.slice none 0 0, .int .i64 0], .int .i64 1]) (by simp [results, Tryz.results89, go_sem]) rfl ⟨none, 0, rfl, Rd.nil _ _, (fun b o e => by cases e), Mod.below (S := fun k => w.heap.size ≤ k) ((Mod.refl _ _).alloc _) (Nat.le_refl _) (fun k hk h => by omega)⟩
  by_cases h2 : 63 < n
  · rw [bad (.inr h2)]
    clear bad
    go_enter Tryz.func89, Tryz.ntmps89
    go_wp2
    exact bodyPost_ret (v := .tuple #[.agg #[.slice none 0 0, .int .i64 0], .int .i64 1]) (by simp [results, Tryz.results89, go_sem]) rfl ⟨none, 0, rfl, Rd.nil _ _, (fun b o e => by cases e), Mod.below (S := fun k => w.heap.size ≤ k) ((Mod.refl _ _).alloc _) (Nat.le_refl _) (fun k hk h => by omega)⟩
  · have e : varR n = (varD n, 0) := by unfold varR; rw [if_neg (by omega)]
    rw [e]
    clear bad e
    go_enter Tryz.func89, Tryz.ntmps89
    go_wp2
    have k2 := Blk.new (w.alloc (.cells #[.slice (some ⟨w.heap.size + 1, 0, none⟩) 1 1, .int .i64 2] 42)) #[.int .i64 n, .int .i64 0, .int .i64 1] 161
    have r2 := rd_one (b := ⟨n, 0, 1⟩) k2
    simp only [World.size_alloc] at r2
    exact bodyPost_ret (v := .tuple #[.agg #[.slice (some ⟨w.heap.size + 1, 0, none⟩) 1 1, .int .i64 2], .int .i64 0]) (by simp [results, Tryz.results89, go_sem]) rfl ⟨_, 1, rfl, r2, (fun b o e => by cases e; omega), Mod.below (S := fun k => w.heap.size ≤ k) (((Mod.refl _ _).alloc _).alloc _) (Nat.le_refl _) (fun k hk h => by omega)⟩


def cfg64 (c : Int) : Cfg := fun k => (c.toNat).testBit k
theorem bit_test (c v : Int) (h0 : 0 ≤ c) (h1 : c < 18446744073709551616) : (bits .and .u64 (c / 2 ^ v.toNat) 1 == 1) = cfg64 c v.toNat := by
  obtain ⟨a, rfl⟩ := Int.eq_ofNat_of_zero_le h0
  have ha : a < 2 ^ 64 := by omega
  have e : ((a : Int) / 2 ^ v.toNat) = ((a / 2 ^ v.toNat : Nat) : Int) := by simp
  rw [e]
  have hlt : a / 2 ^ v.toNat < 2 ^ 64 := Nat.lt_of_le_of_lt (Nat.div_le_self _ _) ha
  have h := bits_mask .u64 64 (by decide) (fun n h0 h1 => by rw [IntKind.wrap_u64]; omega) 1 (by decide) ((a / 2 ^ v.toNat : Nat) : Int) (Int.natCast_nonneg _) (by exact_mod_cast hlt)
  have e2 : ((2 : Int) ^ 1 - 1) = 1 := by decide
  rw [e2] at h
  rw [h]
  simp only [cfg64, Int.toNat_natCast, Nat.testBit_eq_decide_div_mod_eq]
  rw [Bool.eq_iff_iff]
  simp only [beq_iff_eq, decide_eq_true_eq]
  omega
noncomputable def holdsB (d : Dg) (c : Int) : Bool := (chk d == 0) && d.den (cfg64 c)

theorem holds_any (x : DA) (c : Int) (hc : 0 ≤ c) (hc1 : c < 18446744073709551616) (w : World) (hx : x.ok w) :
    Calls Tryz.prog 48 #[x.val, .int .u64 c] w fun e w' => e = .returned (.bool (holdsB x.d c)) ∧ Below w.heap.size w w' := by
  have hb : Below w.heap.size w (w.alloc (.cells #[.slice x.a x.d.nodes.length x.cap, .int .i64 x.d.root] 42)) := (Below.refl _ _).alloc (Nat.le_refl _) _
  have ck := check_any x.d x.a x.cap _ (hx.below hb)
  have k0 := Blk.new w #[.slice x.a x.d.nodes.length x.cap, .int .i64 x.d.root] 42
  obtain ⟨⟨N, root⟩, a, cap⟩ := x
  simp only [DA.val, DA.ok] at *
  by_cases hq : chk ⟨N, root⟩ = 0
  · obtain ⟨hv, hl⟩ := chk_zero hq
    have hH : holdsB ⟨N, root⟩ c = den N root (cfg64 c) := by simp [holdsB, hq, Dg.den]
    rw [hH]
    rw [hq] at ck
    have r0 := hv.r0
    have r1 := hv.r1
    have hor := hv.ord
    simp only at r0 r1
    clear hH hq hv
    go_enter Tryz.func48, Tryz.ntmps48
    go_wp2_with fail
    refine ck.mono ?_
    rintro e w1 ⟨rfl, b1⟩
    have k1 := k0.mod (Mod.of_below (S := fun _ => False) b1) (fun h => h)
    have b2 : Below w.heap.size w w1 := hb.trans (b1.mono (by simp))
    have e0 := k1.cell 0
    have e1 := k1.cell 1
    have hk1 := k1.lt
    simp at e0 e1
    clear hb ck k0 b1
    go_wp2_with fail
    go_loopg [5, 6] (root.toNat) (fun k ct u6 wr => ∃ n : Int, 0 ≤ n ∧ n < (N.length : Int) + 2 ∧ k = n.toNat ∧ ct = .int .i64 n ∧ Hid (den N n (cfg64 c) = den N root (cfg64 c)) ∧ Below w1.heap.size w1 wr)
    case atStart => exact ⟨root, r0, r1, rfl, rfl, rfl, Below.refl _ _⟩
    case round =>
      obtain ⟨n, n0, n1, rfl, rfl, HD, bel⟩ := hrel
      by_cases h2 : n ≤ 1
      · go_wp2_with fail
        have hd : den N root (cfg64 c) = (n == 1) := by
          rw [← HD.out]
          have : n = 0 ∨ n = 1 := by omega
          rcases this with rfl | rfl
          · rw [den_zero]; rfl
          · rw [den_one]; rfl
        go_ret
        exact ⟨by rw [hd]; rfl, b2.trans (bel.mono b2.size)⟩
      · obtain ⟨i, y, hi, hy, rfl⟩ := getBr (N := N) (n := n) (by omega) n1
        obtain ⟨b1, o1, rfl, hb1, x0, x1, x2⟩ := ((hx.below b2).below bel).br hy
        have HY := Lib.hid hy
        clear hy
        have k2 := k1.mod (Mod.of_below (S := fun _ => False) bel) (fun h => h)
        have d0 := k2.cell 0
        have hd := k2.lt
        simp at d0
        have hv0 := hor i y HY.out
        have q0 := hv0.v0
        have q1 := hv0.v1
        have q2 := hv0.l1
        have q3 := hv0.h1
        have q4 := hv0.l0
        have q5 := hv0.h0
        have hn := den_node hor HY.out (cfg64 c)
        rw [← bit_test c y.var hc hc1] at hn
        have HN := Lib.hid hn
        clear hv0 hn
        go_wp2_with fail
        all_goals
          rename_i hbit
          have hn := HN.out
          rw [hbit] at hn
        · go_roundg y.high.toNat
          case measure => omega
          case rel => exact ⟨y.high, q5, by omega, rfl, rfl, by show den N y.high (cfg64 c) = _; rw [← HD.out, hn]; rfl, bel.alloc bel.size _⟩
        · go_roundg y.low.toNat
          case measure => omega
          case rel => exact ⟨y.low, q4, by omega, rfl, rfl, by show den N y.low (cfg64 c) = _; rw [← HD.out, hn]; rfl, bel.alloc bel.size _⟩
  · have hH : holdsB ⟨N, root⟩ c = false := by simp [holdsB, hq]
    rw [hH]
    have hq' : (chk ⟨N, root⟩ != 0) = true := by rw [bne_iff_ne]; exact hq
    clear hq
    go_enter Tryz.func48, Tryz.ntmps48
    go_wp2_with fail
    refine ck.mono ?_
    rintro e w1 ⟨rfl, b1⟩
    go_wp2_with fail
    go_ret
    exact ⟨rfl, hb.trans (b1.mono (by simp))⟩
end Go.Proofs.YtpekmohnjpbkgaaGreatDoor
