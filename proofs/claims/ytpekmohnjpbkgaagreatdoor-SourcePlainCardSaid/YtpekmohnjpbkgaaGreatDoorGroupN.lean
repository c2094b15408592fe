/- The reader of files: branch. The reader of files: what read needs: delete, Cut at a space, one line. The reader in the middle of a file. -/
import Derived.Test.YtpekmohnjpbkgaaGreatDoorGroupM
import Derived.Test.YtpekmohnjpbkgaaGreatDoorSad
namespace Go.Proofs.YtpekmohnjpbkgaaGreatDoor
open Go Go.RowKit
set_option maxHeartbeats 4000000
set_option maxRecDepth 100000
attribute [local go_sem ↓] Go.wp_at_zero Go.wp_at_succ

/-- A section in memory. -/
structure SecV where
  outer : DA
  rest : DA
  other : Bool
  line : Int
def SecV.d (x : SecV) : SecD := ⟨x.outer.d, x.rest.d, x.other, x.line⟩
def SecV.cells (x : SecV) : List Value := [.slice x.outer.a x.outer.d.nodes.length x.outer.cap, .int .i64 x.outer.d.root, .slice x.rest.a x.rest.d.nodes.length x.rest.cap, .int .i64 x.rest.d.root, .bool x.other, .int .i64 x.line]
theorem rowSec : RowTy 193 201 6 SecV.cells where
  under := Tryz.underlying193
  info := ⟨.agg #[.slice none 0 0, .int .i64 0, .slice none 0 0, .int .i64 0, .bool false, .int .i64 0], 80, by kernel_rfl, rfl, by omega⟩
  pos := by omega
  len := fun _ => rfl
  one := fun x u hu => by simp [SecV.cells] at hu; rcases hu with rfl | rfl | rfl | rfl | rfl | rfl <;> rfl

def RC.wX (C : RC) (X : Nat → Prop) : RC := { C with X := X }

/-- Blocks that the reader leaves alone are written, or made. -/
theorem RM.grow {C : RC} {m : RV} {st : St} {w w2 : World} (h : RM C m st w) (hm : Mod C.X w w2) {X2 : Nat → Prop} (hX : ∀ k, X2 k → C.X k ∨ (w.heap.size ≤ k ∧ k < w2.heap.size)) : RM (C.wX X2) m st w2 := by
  have key : ∀ (a : Option Addr) (cs : List Value), InR (ASet C m) w a cs → InR (ASet (C.wX X2) m) w2 a cs := by
    intro a cs hi
    by_cases hc : cs = []
    · subst hc
      exact ⟨Rd.nil _ _, fun h => absurd rfl h⟩
    · refine ⟨hi.rd.mod hm (fun b o e _ hk => hi.out hc b o e (.inr hk)), fun _ b o e hk => ?_⟩
      rcases hk with hk | hk
      · exact hi.out hc b o e (.inl hk)
      · rcases hX b hk with hk | hk
        · exact hi.out hc b o e (.inr hk)
        · have := hi.rd.lt_of hc b o e
          omega
  have hs := hm.size
  refine ⟨h.blk.mod hm (h.xout _ (.inl rfl)), h.bp, h.buf.mod hm (fun g e => h.xout _ (.inr (.inr (.inl e)))), h.nil, h.out.mod hm (fun g e => h.xout _ (.inr (.inr (.inr e)))), h.segs, fun x hx => key _ _ (h.sets x hx), h.reading.mod hm (h.xout _ (.inr (.inl rfl))), h.ok, key _ _ h.names, key _ _ h.files, h.nums.mod hm h.numsX, h.numsOut, h.hb, h.hbm, fun k hk => ?_, fun k hk hk2 => ?_, fun hk => ?_⟩
  · rcases hX k hk with hk | hk
    · have := h.xlt k hk; omega
    · exact hk.2
  · rcases hX k hk2 with hk3 | hk3
    · exact h.xout k hk hk3
    · have := h.lt hk; omega
  · rcases hX _ hk with hk3 | hk3
    · exact h.numsX hk3
    · have h3 : w.heap.size ≤ C.nm := hk3.1
      have := h.nums.lt; omega
theorem RM.write {C : RC} {m : RV} {st : St} {w w2 : World} (h : RM C m st w) (hm : Mod C.X w w2) : RM C m st w2 := h.grow hm (X2 := C.X) (fun k hk => .inl hk)
theorem InR.write {C : RC} {m : RV} {w w2 : World} {a : Option Addr} {cs : List Value} (h : InR (ASet C m) w a cs) (hm : Mod C.X w w2) : InR (ASet C m) w2 a cs := by
  by_cases hc : cs = []
  · subst hc
    exact ⟨Rd.nil _ _, fun h => absurd rfl h⟩
  · exact ⟨h.rd.mod hm (fun b o e _ hk => h.out hc b o e (.inr hk)), h.out⟩

/-- The new section and its set, or the panic of an error; the section lies in block g at offset off. -/
def BrPost (C : RC) (m : RV) (g off : Nat) (cur : Array Value) (x : SecV) (w : World) (r : Res (SecD × Dg)) (e : Ending) (w' : World) : Prop :=
  match r with
  | .ok (x', k') => ∃ (y : SecV) (q : DA) (cur' : Array Value), y.d = x' ∧ q.d = k' ∧ e = .returned q.val ∧ Blk w' g cur' 201 ∧ cur'.size = cur.size ∧ (∀ k, k < 6 → cur'[off + k]? = y.cells[k]?) ∧ (∀ j, j < off ∨ off + 6 ≤ j → cur'[j]? = cur[j]?) ∧
      Mod (fun k => k = g) w w' ∧ y.outer = x.outer ∧ (y.rest = x.rest ∨ y.rest.ok w' ∧ ∀ b o, y.rest.a = some ⟨b, o, none⟩ → w.heap.size ≤ b) ∧ (q = x.rest ∨ q.ok w' ∧ ∀ b o, q.a = some ⟨b, o, none⟩ → w.heap.size ≤ b)
  | .error p => e = .panicked (plCh p) ∧ Mod (fun k => k = g) w w'

theorem sets3 (cur : Array Value) (off : Nat) (a b c : Value) (k : Nat) (hk : k < 6) (hs : off + 5 < cur.size) :
    (((cur.setIfInBounds (off + 4) a).setIfInBounds (off + 2) b).setIfInBounds (off + 2 + 1) c)[off + k]? = if k = 3 then some c else if k = 2 then some b else if k = 4 then some a else cur[off + k]? := by
  simp only [Array.getElem?_setIfInBounds, Array.size_setIfInBounds]
  have : k = 0 ∨ k = 1 ∨ k = 2 ∨ k = 3 ∨ k = 4 ∨ k = 5 := by omega
  rcases this with rfl | rfl | rfl | rfl | rfl | rfl
  · rw [if_neg (by omega), if_neg (by omega), if_neg (by omega), if_neg (by omega), if_neg (by omega), if_neg (by omega)]
  · rw [if_neg (by omega), if_neg (by omega), if_neg (by omega), if_neg (by omega), if_neg (by omega), if_neg (by omega)]
  · rw [if_neg (by omega), if_pos (by omega), if_pos (by omega), if_neg (by omega), if_pos rfl]
  · rw [if_pos (by omega), if_pos (by omega), if_pos rfl]
  · rw [if_neg (by omega), if_neg (by omega), if_pos (by omega), if_pos (by omega), if_neg (by omega), if_neg (by omega), if_pos rfl]
  · rw [if_neg (by omega), if_neg (by omega), if_neg (by omega), if_neg (by omega), if_neg (by omega), if_neg (by omega)]

theorem branch_any (C : RC) (hC : RCok C) (m : RV) (st : St) (g off : Nat) (cur : Array Value) (x : SecV) (hr : Sm 6 x.rest.d) (other : Bool) (s : List UInt8) (hs : s.length ≤ 1099511627775) (w : World) (h : RM C m st w) (hg : Blk w g cur 201)
    (hx : ∀ k, k < 6 → cur[off + k]? = x.cells[k]?) (hX : C.X g) (hro : InR (ASet C m) w x.rest.a (brCells x.rest.d.nodes)) :
    Calls Tryz.prog 141 #[.pointer (some ⟨C.rb, 0, none⟩), .pointer (some ⟨g, off, none⟩), .bool other, str s] w (BrPost C m g off cur x w (branchF C.L x.d other s st)) := by
  have hb0 : Below w.heap.size w (w.alloc (.cells #[.slice none 0 0, .int .i64 0] 42)) := (Below.refl _ _).alloc (Nat.le_refl _) _
  have h1 := h.below hb0
  have kres := Blk.new w #[.slice none 0 0, .int .i64 0] 42
  have hg1 := hg.alloc (.cells #[.slice none 0 0, .int .i64 0] 42)
  have c2 := hg1.cell (off + 2)
  have c3 := hg1.cell (off + 3)
  have c4 := hg1.cell (off + 4)
  rw [hx 2 (by omega)] at c2
  rw [hx 3 (by omega)] at c3
  rw [hx 4 (by omega)] at c4
  have f4 := hg1.frozen (off + 4)
  have lg := hg1.lt
  obtain ⟨xo, ⟨xd, xa, xc⟩, xoth, xl⟩ := x
  simp [SecV.cells] at c2 c3 c4
  have hbf : branchF C.L (SecV.d ⟨xo, ⟨xd, xa, xc⟩, xoth, xl⟩) other s st = if xoth = true then st.fail 71 else if other = true then .ok (⟨xo.d, xd, true, xl⟩, xd) else match setF C.L s st with
    | .error p => .error p
    | .ok d => .ok (⟨xo.d, andD xd (notD d), false, xl⟩, andD xd d) := rfl
  rw [hbf]
  clear hbf
  cases xoth
  · cases other
    · simp only [Bool.false_eq_true, if_false]
      generalize hres : (match setF C.L s st with
        | .error p => (.error p : Res (SecD × Dg))
        | .ok d => .ok (⟨xo.d, andD xd (notD d), false, xl⟩, andD xd d)) = res
      have HRES := Lib.hid hres
      clear hres
      have kb := (Blk.new (w.alloc (.cells #[.slice none 0 0, .int .i64 0] 42)) #[.slice xa xd.nodes.length xc, .int .i64 xd.root] 42).setCell_other (p := ⟨g, off + 4, none⟩) (by have := hg.lt; simp; omega) (.bool false)
      have kr := (kres.alloc (.cells #[.slice xa xd.nodes.length xc, .int .i64 xd.root] 42)).setCell_other (p := ⟨g, off + 4, none⟩) (by have := hg.lt; simp; omega) (.bool false)
      simp only [World.size_alloc] at kb
      have hlt := hg.lt
      have hgW := ((hg.setCell (off + 4) (.bool false)).alloc (.cells #[.slice none 0 0, .int .i64 0] 42)).alloc (.cells #[.slice xa xd.nodes.length xc, .int .i64 xd.root] 42)
      have krW := (Blk.new (w.setCell ⟨g, off + 4, none⟩ (.bool false)) #[.slice none 0 0, .int .i64 0] 42).alloc (.cells #[.slice xa xd.nodes.length xc, .int .i64 xd.root] 42)
      have kbW := Blk.new ((w.setCell ⟨g, off + 4, none⟩ (.bool false)).alloc (.cells #[.slice none 0 0, .int .i64 0] 42)) #[.slice xa xd.nodes.length xc, .int .i64 xd.root] 42
      have mX : Mod C.X w (((w.setCell ⟨g, off + 4, none⟩ (.bool false)).alloc (.cells #[.slice none 0 0, .int .i64 0] 42)).alloc (.cells #[.slice xa xd.nodes.length xc, .int .i64 xd.root] 42)) :=
        (((Mod.refl C.X w).setCell (p := ⟨g, off + 4, none⟩) (.inl hX) _).alloc _).alloc _
      have mG : Mod (fun k => k = g) w (((w.setCell ⟨g, off + 4, none⟩ (.bool false)).alloc (.cells #[.slice none 0 0, .int .i64 0] 42)).alloc (.cells #[.slice xa xd.nodes.length xc, .int .i64 xd.root] 42)) :=
        (((Mod.refl (fun k => k = g) w).setCell (p := ⟨g, off + 4, none⟩) (.inl rfl) _).alloc _).alloc _
      have hW := h.write mX
      have roW := hro.write mX
      have szW : (((w.setCell ⟨g, off + 4, none⟩ (.bool false)).alloc (.cells #[.slice none 0 0, .int .i64 0] 42)).alloc (.cells #[.slice xa xd.nodes.length xc, .int .i64 xd.root] 42)).heap.size = w.heap.size + 2 := by simp [World.setCell]
      simp only [World.size_alloc, World.size_setCell] at krW kbW
      clear kb kr
      go_enter Tryz.func141, Tryz.ntmps141
      go_upto_region 6 with fail
      generalize ((w.setCell ⟨g, off + 4, none⟩ (.bool false)).alloc (.cells #[.slice none 0 0, .int .i64 0] 42)).alloc (.cells #[.slice xa xd.nodes.length xc, .int .i64 xd.root] 42) = W at *
      have g2 := hgW.cell (off + 2)
      have g3 := hgW.cell (off + 3)
      rw [Array.getElem?_setIfInBounds_ne (by omega), hx 2 (by omega)] at g2
      rw [Array.getElem?_setIfInBounds_ne (by omega), hx 3 (by omega)] at g3
      simp [SecV.cells] at g2 g3
      have lgW := hgW.lt
      cases hset : setF C.L s st with
      | error p =>
        have cse : ∀ W2, Below W.heap.size W W2 → Calls Tryz.prog 136 #[.pointer (some ⟨C.rb, 0, none⟩), str s] W2 (fun e w' => e = .panicked (plCh p) ∧ Below W2.heap.size W2 w') := by
          intro W2 hb2
          have := set_any C hC m st s hs W2 (hW.below hb2)
          rw [hset] at this
          exact this
        have CS := Lib.hid cse
        have hrr : res = .error p := by rw [← HRES.out, hset]
        have HRR := Lib.hid hrr
        clear cse hset HRES hrr
        refine wp_region_any (by kernel_rfl) ?_
        change wpAny _ _ _ _ _ _ _ (World.drew _)
        refine wpAny_take (i := 0) (v := ?_) rfl (by kernel_rfl) (by kernel_rfl) (by kernel_rfl) (fun _ _ _ h => h) (Or.inl ⟨by rfl, ?_⟩) ?_
        rotate_left 1
        · intro w
          go_simp
          try with_reducible rfl
        refine wpAny_take (i := 1) (v := ?_) rfl (by kernel_rfl) (by kernel_rfl) (by kernel_rfl) (fun _ _ _ h => h) (Or.inl ⟨by rfl, ?_⟩) ?_
        rotate_left 1
        · intro w
          go_simp
          try with_reducible rfl
        refine wpAny_take (i := 2) (v := ?_) rfl (by kernel_rfl) (by kernel_rfl) (by kernel_rfl) (fun _ _ _ h => h) (Or.inl ⟨by rfl, ?_⟩) ?_
        rotate_left 1
        · intro w
          go_simp
          try with_reducible rfl
        refine wpAny_take (i := 3) (v := ?_) rfl (by kernel_rfl) (by kernel_rfl) (by kernel_rfl) (fun _ _ _ h => h) (Or.inl ⟨by rfl, ?_⟩) ?_
        rotate_left 1
        · intro w
          go_simp
          try with_reducible rfl
        refine wpAny_take (i := 4) (v := ?_) rfl (by kernel_rfl) (by kernel_rfl) (by kernel_rfl) (fun _ _ _ h => h) (Or.inl ⟨by rfl, ?_⟩) ?_
        rotate_left 1
        · intro w
          go_simp
          try with_reducible rfl
        refine wpAny_take (i := 6) (v := ?_) rfl (by kernel_rfl) (by kernel_rfl) (by kernel_rfl) (fun _ _ _ h => h) (Or.inl ⟨by rfl, ?_⟩) ?_
        rotate_left 1
        · intro w
          go_simp
          try with_reducible rfl
        refine wpAny_take (i := 7) (v := ?_) rfl (by kernel_rfl) (by kernel_rfl) (by kernel_rfl) (fun _ _ _ h => h) (Or.inl ⟨by rfl, ?_⟩) ?_
        rotate_left 1
        · intro w
          go_simp
          try with_reducible rfl
        refine wpAny_ready (rs := [5, 8]) (by kernel_rfl) (by simp) ?_
        refine AllReady.cons rfl (fun K hK => ?_) ?_
        · go_simp
          refine hK _ _ ?_
          clear hK K
          refine wpAny_ready (rs := [8]) (by kernel_rfl) (by simp) ?_
          refine AllReady.cons rfl (fun K hK => ?_) AllReady.nil
          go_simp
          refine (CS.out _ (by exact (Below.refl _ W).drew)).mono ?_
          rintro e ws ⟨rfl, bs⟩
          refine ⟨rfl, ?_⟩
          rw [HRR.out]
          exact ⟨rfl, mG.trans (Mod.of_below (((Below.refl _ W).drew).trans bs))⟩
        · refine AllReady.cons rfl (fun K hK => ?_) AllReady.nil
          go_simp
          refine (CS.out _ (by exact (Below.refl _ W).drew)).mono ?_
          rintro e ws ⟨rfl, bs⟩
          refine ⟨rfl, ?_⟩
          rw [HRR.out]
          exact ⟨rfl, mG.trans (Mod.of_below (((Below.refl _ W).drew).trans bs))⟩
      | ok d =>
        have hsd := (setF_ok hC.names hset).2.2
        have cs : ∀ W2, Below W.heap.size W W2 → Calls Tryz.prog 136 #[.pointer (some ⟨C.rb, 0, none⟩), str s] W2 (DgPost W2 d) := by
          intro W2 hb2
          have := set_any C hC m st s hs W2 (hW.below hb2)
          rw [hset] at this
          exact this
        have cp : ∀ (W2 : World) (a : Option Addr) (cc : Nat), Below W.heap.size W W2 → Rd W2 a (brCells d.nodes) → Calls Tryz.prog 138 #[.pointer (some ⟨C.rb, 0, none⟩), .agg #[.slice xa xd.nodes.length xc, .int .i64 xd.root], .agg #[.slice a d.nodes.length cc, .int .i64 d.root]] W2 (TwoPost W2 (andD xd d) (andD xd (notD d))) := by
          intro W2 a cc hb2 hrd
          exact split_any C.rb ⟨xd, xa, xc⟩ ⟨d, a, cc⟩ hr hsd W2 (roW.rd.below hb2) hrd
        have CS := Lib.hid cs
        have CP := Lib.hid cp
        have hrr : res = .ok (⟨xo.d, andD xd (notD d), false, xl⟩, andD xd d) := by rw [← HRES.out, hset]
        have HRR := Lib.hid hrr
        clear cs cp hset HRES hrr
        generalize andD xd d = r1 at *
        generalize andD xd (notD d) = r2 at *
        go_region_with (first
          | (go_at_call 136; refine (CS.out _ (by exact (Below.refl _ W).drew)).mono ?_; rintro e ws ⟨sA, sC, rfl, rs, fs, bs⟩; have As := ((Below.refl _ W).drew).trans bs; have q := hgW.mod (Mod.of_below (S := fun _ => False) As) (fun h => h); have y2 := q.cell (off + 2); have y3 := q.cell (off + 3); have lq := q.lt; rw [Array.getElem?_setIfInBounds_ne (by omega), hx 2 (by omega)] at y2; rw [Array.getElem?_setIfInBounds_ne (by omega), hx 3 (by omega)] at y3; simp [SecV.cells] at y2 y3)
          | (go_at_call 138; refine (CP.out _ sA sC As rs).mono ?_; rintro e wp ⟨a1, c1, a2, cc2, rfl, p1, p2, fa1, fa2, bp⟩; have Ap := As.trans (bp.mono As.size); have q := hgW.mod (Mod.of_below (S := fun _ => False) Ap) (fun h => h); have qb := kbW.mod (Mod.of_below (S := fun _ => False) Ap) (fun h => h); have y2 := q.cell (off + 2); have y3 := q.cell (off + 3); have lq := q.lt; have z0 := qb.cell 0; have z1 := qb.cell 1; have lb := qb.lt; have fq2 := q.frozen (off + 2); have fq3 := q.frozen (off + 3); have fb0 := qb.frozen 0; have fb1 := qb.frozen 1; rw [Array.getElem?_setIfInBounds_ne (by omega), hx 2 (by omega)] at y2; rw [Array.getElem?_setIfInBounds_ne (by omega), hx 3 (by omega)] at y3; simp [SecV.cells] at y2 y3 z0 z1))
        all_goals
          have hAp : W.heap.size ≤ wp.heap.size := Ap.size
          have hAs : W.heap.size ≤ ws.heap.size := As.size
          have ga1 : ∀ b o, a1 = some ⟨b, o, none⟩ → w.heap.size + 2 ≤ b := fun b o e => by have := fa1 b o e; omega
          have ga2 : ∀ b o, a2 = some ⟨b, o, none⟩ → w.heap.size + 2 ≤ b := fun b o e => by have := fa2 b o e; omega
          have qr := krW.mod (Mod.of_below (S := fun _ => False) Ap) (fun h => h)
          have mF : Mod (fun k => k = g ∨ k = w.heap.size + 1) wp ((((wp.setCell ⟨w.heap.size + 1, 0, none⟩ (.slice a1 r1.nodes.length c1)).setCell ⟨w.heap.size + 1, 1, none⟩ (.int .i64 r1.root)).setCell ⟨g, off + 2, none⟩ (.slice a2 r2.nodes.length cc2)).setCell ⟨g, off + 2 + 1, none⟩ (.int .i64 r2.root)) :=
            ((((Mod.refl (fun k => k = g ∨ k = w.heap.size + 1) wp).setCell (p := ⟨w.heap.size + 1, 0, none⟩) (.inl (.inr rfl)) _).setCell (p := ⟨w.heap.size + 1, 1, none⟩) (.inl (.inr rfl)) _).setCell (p := ⟨g, off + 2, none⟩) (.inl (.inl rfl)) _).setCell (p := ⟨g, off + 2 + 1, none⟩) (.inl (.inl rfl)) _
          have qF := (((q.setCell_other (p := ⟨w.heap.size + 1, 0, none⟩) (by show w.heap.size + 1 ≠ g; omega) (.slice a1 r1.nodes.length c1)).setCell_other (p := ⟨w.heap.size + 1, 1, none⟩) (by show w.heap.size + 1 ≠ g; omega) (.int .i64 r1.root)).setCell (off + 2) (.slice a2 r2.nodes.length cc2)).setCell (off + 2 + 1) (.int .i64 r2.root)
          have bF := (((qb.setCell 0 (.slice a1 r1.nodes.length c1)).setCell 1 (.int .i64 r1.root)).setCell_other (p := ⟨g, off + 2, none⟩) (by show g ≠ w.heap.size + 1; omega) (.slice a2 r2.nodes.length cc2)).setCell_other (p := ⟨g, off + 2 + 1, none⟩) (by show g ≠ w.heap.size + 1; omega) (.int .i64 r2.root)
          have rF := (((qr.setCell_other (p := ⟨w.heap.size + 1, 0, none⟩) (by show w.heap.size + 1 ≠ w.heap.size; omega) (.slice a1 r1.nodes.length c1)).setCell_other (p := ⟨w.heap.size + 1, 1, none⟩) (by show w.heap.size + 1 ≠ w.heap.size; omega) (.int .i64 r1.root)).setCell_other (p := ⟨g, off + 2, none⟩) (by show g ≠ w.heap.size; omega) (.slice a2 r2.nodes.length cc2)).setCell_other (p := ⟨g, off + 2 + 1, none⟩) (by show g ≠ w.heap.size; omega) (.int .i64 r2.root)
          have P1 := p1.mod mF (fun b o e _ hk => by have := ga1 b o e; omega)
          have P2 := p2.mod mF (fun b o e _ hk => by have := ga2 b o e; omega)
          have mA : Mod (fun k => k = g) w wp := mG.trans (Mod.of_below Ap)
          have mB := mA.trans' mF (T := fun k => k = g) (fun _ _ h => h) (fun i hi e => by omega)
          generalize (((wp.setCell ⟨w.heap.size + 1, 0, none⟩ (.slice a1 r1.nodes.length c1)).setCell ⟨w.heap.size + 1, 1, none⟩ (.int .i64 r1.root)).setCell ⟨g, off + 2, none⟩ (.slice a2 r2.nodes.length cc2)).setCell ⟨g, off + 2 + 1, none⟩ (.int .i64 r2.root) = F at *
          have b0 := bF.cell 0
          have b1 := bF.cell 1
          have r0 := rF.cell 0
          have r1' := rF.cell 1
          have rf0 := rF.frozen 0
          have rf1 := rF.frozen 1
          have lr := rF.lt
          simp at b0 b1 r0 r1'
          clear CS CP
          have lF := qF.lt
          have mZ : Mod (fun k => k = w.heap.size) F ((F.setCell ⟨w.heap.size, 0, none⟩ (.slice a1 r1.nodes.length c1)).setCell ⟨w.heap.size, 1, none⟩ (.int .i64 r1.root)) :=
            ((Mod.refl (fun k => k = w.heap.size) F).setCell (p := ⟨w.heap.size, 0, none⟩) (.inl rfl) _).setCell (p := ⟨w.heap.size, 1, none⟩) (.inl rfl) _
          have Z1 := P1.mod mZ (fun b o e _ hk => by have := ga1 b o e; omega)
          have Z2 := P2.mod mZ (fun b o e _ hk => by have := ga2 b o e; omega)
          have qZ := qF.mod mZ (by omega)
          have rZ := (rF.setCell 0 (.slice a1 r1.nodes.length c1)).setCell 1 (.int .i64 r1.root)
          have mC := mB.trans' mZ (T := fun k => k = g) (fun _ _ h => h) (fun i hi e => by omega)
          have t0 := rZ.cell 0
          have t1 := rZ.cell 1
          simp at t0 t1
          go_wp2_with fail
          have hsz : off + 5 < cur.size := by
            have := hx 5 (by omega)
            simp [SecV.cells] at this
            exact (Array.getElem?_eq_some_iff.1 this).1
          refine bodyPost_ret (v := .agg #[.slice a1 r1.nodes.length c1, .int .i64 r1.root]) (by simp [results, Tryz.results141, go_sem, t0, t1]) rfl ?_
          rw [HRR.out]
          refine ⟨⟨xo, ⟨r2, a2, cc2⟩, false, xl⟩, ⟨r1, a1, c1⟩, _, rfl, rfl, rfl, qZ, by simp, fun k hk => ?_, fun j hj => ?_, mC, rfl, .inr ⟨Z2, fun b o e => by have := ga2 b o e; omega⟩, .inr ⟨Z1, fun b o e => by have := ga1 b o e; omega⟩⟩
          · rw [sets3 _ _ _ _ _ _ hk hsz]
            have : k = 0 ∨ k = 1 ∨ k = 2 ∨ k = 3 ∨ k = 4 ∨ k = 5 := by omega
            have h0 := hx k hk
            rcases this with rfl | rfl | rfl | rfl | rfl | rfl
            · exact h0
            · exact h0
            · rfl
            · rfl
            · rfl
            · exact h0
          · simp only [Array.getElem?_setIfInBounds]
            rw [if_neg (by omega), if_neg (by omega), if_neg (by omega)]
    · simp only [Bool.false_eq_true, if_false, if_true]
      have kb := (Blk.new (w.alloc (.cells #[.slice none 0 0, .int .i64 0] 42)) #[.slice xa xd.nodes.length xc, .int .i64 xd.root] 42).setCell_other (p := ⟨g, off + 4, none⟩) (by have := hg.lt; simp; omega) (.bool true)
      have kr := (kres.alloc (.cells #[.slice xa xd.nodes.length xc, .int .i64 xd.root] 42)).setCell_other (p := ⟨g, off + 4, none⟩) (by have := hg.lt; simp; omega) (.bool true)
      simp only [World.size_alloc] at kb
      have b0 := kb.cell 0
      have b1 := kb.cell 1
      have r0 := kr.cell 0
      have r1 := kr.cell 1
      have rf0 := kr.frozen 0
      have rf1 := kr.frozen 1
      have hlt := hg.lt
      simp at b0 b1 r0 r1
      go_enter Tryz.func141, Tryz.ntmps141
      go_wp2_with fail
      have hgz := ((hg.setCell (off + 4) (.bool true)).alloc (.cells #[.slice xa xd.nodes.length xc, .int .i64 xd.root] 42)).alloc (.cells #[.slice xa xd.nodes.length xc, .int .i64 xd.root] 42)
      have mz : Mod (fun k => k = g) w (((w.setCell ⟨g, off + 4, none⟩ (.bool true)).alloc (.cells #[.slice xa xd.nodes.length xc, .int .i64 xd.root] 42)).alloc (.cells #[.slice xa xd.nodes.length xc, .int .i64 xd.root] 42)) :=
        (((Mod.refl (fun k => k = g) w).setCell (p := ⟨g, off + 4, none⟩) (.inl rfl) _).alloc _).alloc _
      have hsz : off + 5 < cur.size := by
        have := hx 5 (by omega)
        simp [SecV.cells] at this
        exact (Array.getElem?_eq_some_iff.1 this).1
      refine bodyPost_ret (v := .agg #[.slice xa xd.nodes.length xc, .int .i64 xd.root]) (by simp [results, Tryz.results141, go_sem]) rfl ?_
      refine ⟨⟨xo, ⟨xd, xa, xc⟩, true, xl⟩, ⟨xd, xa, xc⟩, _, rfl, rfl, rfl, hgz, by simp, fun k hk => ?_, fun j hj => ?_, mz, rfl, .inl rfl, .inl rfl⟩
      · rw [Array.getElem?_setIfInBounds]
        by_cases hk4 : k = 4
        · subst hk4
          rw [if_pos rfl, if_pos (by omega)]
          rfl
        · rw [if_neg (by omega), hx k hk]
          have : k = 0 ∨ k = 1 ∨ k = 2 ∨ k = 3 ∨ k = 5 := by omega
          rcases this with rfl | rfl | rfl | rfl | rfl <;> rfl
      · rw [Array.getElem?_setIfInBounds, if_neg (by omega)]
  · simp only [if_true]
    have fl := h1.fails 71
    go_enter Tryz.func141, Tryz.ntmps141
    go_wp2_with fail
    refine fl.mono ?_
    rintro e w2 ⟨rfl, m2⟩
    exact ⟨rfl, rfl, (Mod.of_below (hb0.trans (m2.below (by simp) (fun _ _ h => h)))).mono (fun _ _ h => h)⟩
end Go.Proofs.YtpekmohnjpbkgaaGreatDoor

namespace Go.Proofs.YtpekmohnjpbkgaaGreatDoor
open Go Go.RowKit
open Go.MapKept (IsKey run_checkKey run_findKey run_setObj_map heap_set)
set_option maxHeartbeats 1000000
set_option maxRecDepth 100000
attribute [local go_sem ↓] Go.wp_at_zero Go.wp_at_succ

section maps
variable {K V : Type} [DecidableEq K] {kv : K → Value} {vv : V → Value} {P : Program}

theorem findK_del_none (x : K) : ∀ (m : List (K × V)) (l : List MapEntry) (i : Nat), l.map (·.val) = m.map (fun p => vv p.2) → findK x (m.map Prod.fst) l i = none → adel m x = m
  | [], l, i, _, _ => rfl
  | p :: m, [], i, h, _ => by simp at h
  | p :: m, e :: l, i, h, hf => by
    obtain ⟨k, v⟩ := p
    simp only [List.map_cons, List.cons.injEq] at h
    simp only [List.map_cons, findK] at hf
    split at hf
    · cases hf
    · rename_i hne
      simp only [adel, if_neg hne, findK_del_none x m l (i + 1) h.2 hf]
theorem findK_del_some (x : K) : ∀ (m : List (K × V)) (l : List MapEntry) (i j : Nat) (y : Value), l.map (·.val) = m.map (fun p => vv p.2) → findK x (m.map Prod.fst) l i = some (j, y) →
    i ≤ j ∧ j - i < m.length ∧ adel m x = m.eraseIdx (j - i)
  | [], l, i, j, y, _, hf => by simp [findK] at hf
  | p :: m, [], i, j, y, h, _ => by simp at h
  | p :: m, e :: l, i, j, y, h, hf => by
    obtain ⟨k, v⟩ := p
    simp only [List.map_cons, List.cons.injEq] at h
    simp only [List.map_cons, findK] at hf
    split at hf
    · rename_i he
      subst he
      simp only [Option.some.injEq, Prod.mk.injEq] at hf
      refine ⟨by omega, by simp; omega, ?_⟩
      rw [hf.1, Nat.sub_self]
      simp [adel]
    · rename_i hne
      obtain ⟨h1, h2, h3⟩ := findK_del_some x m l (i + 1) j y h.2 hf
      refine ⟨by omega, by simp; omega, ?_⟩
      rw [show j - i = (j - (i + 1)) + 1 by omega]
      simp only [adel, if_neg hne, h3, List.eraseIdx_cons_succ]

theorem eraseIdx_map' {α β : Type} (f : α → β) : ∀ (l : List α) (i : Nat), (l.map f).eraseIdx i = (l.eraseIdx i).map f
  | [], _ => rfl
  | a :: l, 0 => rfl
  | a :: l, i + 1 => by simp [eraseIdx_map' f l i]
theorem MapAt.del_run {w : World} {b : Nat} {m : List (K × V)} (h : MapAt kv vv w b m) {T kt e : TypeId} (ht : P.underlying T = some (.map kt e)) (hk : KeyTy P kt kv) (x : K) (ty : TypeId) :
    ∃ w', (Builtin.delete_ #[T, kt] ty #[.map (some b), kv x]).run P w = .ok (.tuple #[]) w' ∧ MapAt kv vv w' b (adel m x) ∧ Mod (fun k => k = b) w w' ∧ w'.heap.size = w.heap.size := by
  obtain ⟨hn, es, c, hb, h1, h2⟩ := h
  have hf := MapAt.run_find hk h1 x w
  have hmod : ∀ o, Mod (fun k => k = b) w { w with heap := w.heap.setIfInBounds b o } := fun o =>
    ⟨rfl, rfl, rfl, by simp, fun k _ hne => (heap_set (o' := o) hb).2 k hne⟩
  cases hr : findK x (m.map Prod.fst) es.toList 0 with
  | none =>
    rw [hr] at hf
    refine ⟨{ w with heap := w.heap.setIfInBounds b (.map es c) }, ?_, ?_, hmod _, by simp⟩
    · simp [Builtin.delete_, run_underlying ht, Go.MapKept.run_getObj_map hb, hk.chk, hf, run_setObj_map _ hb, Result.andThen]
    · rw [findK_del_none (vv := vv) x m es.toList 0 h2 hr]
      exact ⟨hn, _, _, (heap_set hb).1, h1, h2⟩
  | some q =>
    obtain ⟨j, y⟩ := q
    rw [hr] at hf
    obtain ⟨_, hj, hd⟩ := findK_del_some (vv := vv) x m es.toList 0 j y h2 hr
    rw [Nat.sub_zero] at hj hd
    refine ⟨{ w with heap := w.heap.setIfInBounds b (.map (es.eraseIdxIfInBounds j) c) }, ?_, ?_, hmod _, by simp⟩
    · simp [Builtin.delete_, run_underlying ht, Go.MapKept.run_getObj_map hb, hk.chk, hf, run_setObj_map _ hb, Result.andThen]
    · have hle : j < es.size := by
        have := congrArg List.length h1
        simp at this
        omega
      have he : (es.eraseIdxIfInBounds j).toList = es.toList.eraseIdx j := by
        unfold Array.eraseIdxIfInBounds
        rw [dif_pos hle, Array.toList_eraseIdx]
      refine ⟨nodup_adel _ _ hn, _, _, (heap_set hb).1, ?_, ?_⟩
      · rw [he, hd, ← eraseIdx_map', h1, eraseIdx_map']
      · rw [he, hd, ← eraseIdx_map', h2, eraseIdx_map']

theorem wpList_delete_at {w : World} {ops : Array Oper} {rest : List Oper} {o : Oper} {a : Act} {Q : Exit → Act → World → Prop} (hg : o.guard = none) (m x : Operand) (t kt : TypeId) (hop : o.op = Op.call { callee := Callee.builtin Builtin.delete, args := #[m, x], argTypes := #[t, kt] })
    (e : TypeId) (ht : P.underlying t = some (.map kt e)) (hk : KeyTy P kt kv) (b : Nat) (mm : List (K × V)) (hm : a.eval m = .map (some b)) (hown : MapAt kv vv w b mm) (key : K) (hx : a.eval x = kv key)
    (hK : ∀ w', MapAt kv vv w' b (adel mm key) → Mod (fun k => k = b) w w' → w'.heap.size = w.heap.size → wpList P ops Q rest (a.put o.dst (.tuple #[])) w') : wpList P ops Q (o :: rest) a w := by
  refine wpList_plain hg fun K' hK' => ?_
  obtain ⟨w', hrun, h1, h2, h3⟩ := hown.del_run (P := P) ht hk key o.type
  unfold Oper.wp
  simp [execOp, hop, resolve, invoke, builtin, hm, hx, hrun, Result.andThen]
  exact hK' _ _ (hK w' h1 h2 h3)
end maps

/-! ### Cut at a space -/
theorem indexByte_take (l : List UInt8) (c : UInt8) : (Lib.indexByte l c = -1 ∧ l.takeWhile (fun b => b != c) = l) ∨ (Lib.indexByte l c = ((l.takeWhile (fun b => b != c)).length : Int) ∧ (l.takeWhile (fun b => b != c)).length < l.length) := by
  induction l with
  | nil => exact .inl ⟨rfl, rfl⟩
  | cons b l ih =>
    by_cases h : b = c
    · subst h
      right
      simp [Lib.indexByte]
    · have h1 : (b == c) = false := by simpa using h
      have h2 : (b != c) = true := by simpa using h
      simp only [Lib.indexByte, h1, Bool.false_eq_true, if_false, List.takeWhile_cons, h2, if_true, List.length_cons]
      rcases ih with ⟨e, t⟩ | ⟨e, t⟩
      · left
        rw [e, t]
        exact ⟨rfl, rfl⟩
      · right
        rw [e]
        have : (((l.takeWhile (fun b => b != c)).length : Int) == -1) = false := by
          rw [beq_eq_false_iff_ne]; omega
        rw [this]
        simp
        omega
theorem take_takeWhile (l : List UInt8) (p : UInt8 → Bool) : l.take (l.takeWhile p).length = l.takeWhile p := by
  induction l with
  | nil => rfl
  | cons b l ih =>
    rw [List.takeWhile_cons]
    split
    · simp [ih]
    · rfl

theorem lcut_space (s : List UInt8) (hs : s.length ≤ 1099511627775) (w : World) :
    Calls Tryz.prog 196 #[str s, .string ⟨#[32]⟩] w fun e w' => e = .returned (.tuple #[str (headOf s), str (restOf s), .bool (spacedOf s)]) ∧ Below w.heap.size w w' := by
  have ix : Calls Tryz.prog 247 #[str s, .string ⟨#[32]⟩] w fun e w' => e = .returned (.int .i64 (Lib.indexByte s 32)) ∧ w = w' := (Tryz.stringslite_Index_one ⟨s.toArray⟩ 32 w).mono fun e w' h => ⟨h.1, h.2.symm⟩
  rcases indexByte_take s 32 with ⟨e1, e2⟩ | ⟨e1, e2⟩
  · rw [e1] at ix
    have hh : headOf s = s := e2
    have hr : restOf s = [] := by unfold restOf; rw [hh]; simp
    have hsp : spacedOf s = false := by unfold spacedOf; rw [hh]; simp
    rw [hh, hr, hsp]
    clear e1 e2 hh hr hsp
    go_enter Tryz.func196, Tryz.ntmps196
    go_wp2_with (first | (go_at_call 247; refine ix.mono ?_; rintro e w' ⟨rfl, rfl⟩))
    exact bodyPost_ret (v := .tuple #[str s, str [], .bool false]) (by simp [results, Tryz.results196, go_sem]) rfl ⟨rfl, Below.refl _ _⟩
  · rw [e1] at ix
    have e2 : (headOf s).length < s.length := e2
    have x1 := ext_cut s 0 (headOf s).length
    have x2 := ext_cut s ((headOf s).length + 1) s.length
    have t1 : (s.drop 0).take ((headOf s).length - 0) = headOf s := take_takeWhile s _
    have t2 : (s.drop ((headOf s).length + 1)).take (s.length - ((headOf s).length + 1)) = restOf s := List.take_of_length_le (by simp)
    rw [t1] at x1
    rw [t2] at x2
    have hsp : spacedOf s = true := by unfold spacedOf; simpa using e2
    rw [hsp]
    have e3 : ((s.takeWhile (fun b => b != 32)).length : Int) = ((headOf s).length : Int) := rfl
    rw [e3] at ix
    clear t1 t2 hsp e1 e3
    generalize restOf s = rs at *
    generalize headOf s = hd at *
    go_enter Tryz.func196, Tryz.ntmps196
    go_wp2_with (first | (go_at_call 247; refine ix.mono ?_; rintro e w' ⟨rfl, rfl⟩))
    go_quiet (fail)
    go_wp2_with fail
    exact bodyPost_ret (v := .tuple #[str hd, str rs, .bool true]) (by simp [results, Tryz.results196, go_sem]) rfl ⟨rfl, bdrewN (Below.refl _ _) _⟩

theorem cut_space (s : List UInt8) (hs : s.length ≤ 1099511627775) (w : World) :
    Calls Tryz.prog 135 #[str s, .string ⟨#[32]⟩] w fun e w' => e = .returned (.tuple #[str (headOf s), str (restOf s), .bool (spacedOf s)]) ∧ Below w.heap.size w w' := by
  have ix := lcut_space s hs w
  generalize restOf s = rs at *
  generalize headOf s = hd at *
  generalize spacedOf s = sp at *
  go_enter Tryz.func135, Tryz.ntmps135
  go_wp2_with fail
  refine ix.mono ?_
  rintro e w' ⟨rfl, b⟩
  go_wp2_with fail
  exact bodyPost_ret (v := .tuple #[str hd, str rs, .bool sp]) (by simp [results, Tryz.results135, go_sem]) rfl ⟨rfl, b⟩
end Go.Proofs.YtpekmohnjpbkgaaGreatDoor

namespace Go.Proofs.YtpekmohnjpbkgaaGreatDoor
open Go Go.RowKit
set_option maxHeartbeats 1000000
set_option maxRecDepth 100000

/-- Blocks of the file that is read: the box of its set, the row of its open sections. -/
def LX (C : RC) (kb : Nat) (ov : Value) (k : Nat) : Prop := C.X k ∨ k = kb ∨ ov.ownBlock = some k
abbrev RC.at' (C : RC) (kb : Nat) (ov : Value) : RC := C.wX (LX C kb ov)

structure LM (C : RC) (m0 : RV) (w0 : World) (kb : Nat) (ov : Value) (O : List SecV) (kd : DA) (m : RV) (ls : LS) (w : World) : Prop where
  rm : RM (C.at' kb ov) m ls.st w
  box : Blk w kb #[.slice kd.a kd.d.nodes.length kd.cap, .int .i64 kd.d.root] 42
  hk : kd.d = ls.k
  kin : InR (ASet (C.at' kb ov) m) w kd.a (brCells kd.d.nodes)
  row : Own 201 6 SecV.cells w0.heap.size w ov O
  opens : O.map SecV.d = ls.opens
  oin : ∀ x ∈ O, InR (ASet (C.at' kb ov) m) w x.outer.a (brCells x.outer.d.nodes) ∧ InR (ASet (C.at' kb ov) m) w x.rest.a (brCells x.rest.d.nodes)
  since : Stp C m0 w0 m w
  kB : w0.heap.size ≤ kb

theorem InR.less {S T : Nat → Prop} {w : World} {a : Option Addr} {cs : List Value} (h : InR S w a cs) (hS : ∀ k, T k → S k) : InR T w a cs := ⟨h.rd, fun hc b o e hk => h.out hc b o e (hS b hk)⟩
theorem RM.less {C : RC} {m : RV} {st : St} {w : World} {X : Nat → Prop} (h : RM C m st w) (hX : ∀ k, X k → C.X k) : RM (C.wX X) m st w := by
  have hS : ∀ k, ASet (C.wX X) m k → ASet C m k := fun k hk => hk.elim .inl (fun e => .inr (hX k e))
  exact ⟨h.blk, h.bp, h.buf, h.nil, h.out, h.segs, fun x hx => (h.sets x hx).less hS, h.reading, h.ok, h.names.less hS, h.files.less hS, h.nums, h.numsOut, h.hb, h.hbm, fun k hk => h.xlt k (hX k hk), fun k hk hk2 => h.xout k hk (hX k hk2), fun hk => h.numsX (hX _ hk)⟩
theorem InR.grow {C : RC} {m : RV} {w w2 : World} {a : Option Addr} {cs : List Value} (hi : InR (ASet C m) w a cs) (hm : Mod C.X w w2) {X2 : Nat → Prop} (hX : ∀ k, X2 k → C.X k ∨ (w.heap.size ≤ k ∧ k < w2.heap.size)) : InR (ASet (C.wX X2) m) w2 a cs := by
  by_cases hc : cs = []
  · subst hc
    exact ⟨Rd.nil _ _, fun h => absurd rfl h⟩
  · refine ⟨hi.rd.mod hm (fun b o e _ hk => hi.out hc b o e (.inr hk)), fun _ b o e hk => ?_⟩
    rcases hk with hk | hk
    · exact hi.out hc b o e (.inl hk)
    · rcases hX b hk with hk | hk
      · exact hi.out hc b o e (.inr hk)
      · have := hi.rd.lt_of hc b o e
        omega

section
variable {C : RC} {m0 : RV} {w0 : World} {kb : Nat} {ov : Value} {O : List SecV} {kd : DA} {m : RV} {ls : LS} {w : World}

theorem LM.oge (h : LM C m0 w0 kb ov O kd m ls w) {g : Nat} (hg : ov.ownBlock = some g) : w0.heap.size ≤ g ∧ g < w.heap.size := h.row.lt hg
theorem LM.okb (h : LM C m0 w0 kb ov O kd m ls w) {g : Nat} (hg : ov.ownBlock = some g) : g ≠ kb := h.row.ne_blk hg h.box (by decide)

/-- The reader has made a step. -/
theorem LM.step (h : LM C m0 w0 kb ov O kd m ls w) {m' : RV} {st' : St} {w' : World} (hr : RM (C.at' kb ov) m' st' w') (hs : Stp (C.at' kb ov) m w m' w') {ls' : LS} (e1 : ls'.st = st') (e2 : ls'.opens = ls.opens) (e3 : ls'.k = ls.k) : LM C m0 w0 kb ov O kd m' ls' w' := by
  have hx : ∀ k, RSet C m k → ¬ LX C kb ov k := h.rm.xout
  have hsC : Stp C m w m' w' := ⟨hs.mod, hs.new⟩
  refine ⟨by rw [e1]; exact hr, h.box.mod hs.mod (fun e => hx kb e (.inr (.inl rfl))), by rw [e3]; exact h.hk, h.kin.step hs, h.row.mod hs.mod (fun g e hk => hx g hk (.inr (.inr e))), by rw [e2]; exact h.opens, fun x hx => ⟨(h.oin x hx).1.step hs, (h.oin x hx).2.step hs⟩, h.since.trans hsC, h.kB⟩
theorem LM.below (h : LM C m0 w0 kb ov O kd m ls w) {w' : World} (hb : Below w.heap.size w w') : LM C m0 w0 kb ov O kd m ls w' :=
  h.step (h.rm.below hb) (Stp.of_below hb) rfl rfl rfl
theorem LM.poke (h : LM C m0 w0 kb ov O kd m ls w) (i : Nat) (v : Value) (st' : St) (hc : (C.cells m ls.st).setIfInBounds i v = C.cells m st') (ht : st'.text = ls.st.text) (ho : st'.out = ls.st.out) (hr : st'.reading = ls.st.reading) (hok : StOk st') :
    LM C m0 w0 kb ov O kd m { ls with st := st' } (w.setCell ⟨C.rb, i, none⟩ v) := by
  have k := h.rm.poke i v st' hc ht ho hr hok
  exact h.step k.1 k.2 rfl rfl rfl
theorem Stp.local {C : RC} {m0 m : RV} {w0 w w2 : World} (h : Stp C m0 w0 m w) {S : Nat → Prop} (hm : Mod S w w2) (hS : ∀ k, S k → w0.heap.size ≤ k) : Stp C m0 w0 m w2 :=
  ⟨h.mod.trans' hm (fun _ _ h => h) (fun i hi e => by have := hS i e; omega), h.new⟩

/-- The set of the file is written. -/
theorem LM.setk (h : LM C m0 w0 kb ov O kd m ls w) (q : DA) (hq : InR (ASet (C.at' kb ov) m) w q.a (brCells q.d.nodes)) {ls' : LS} (e1 : ls'.st = ls.st) (e2 : ls'.opens = ls.opens) (e3 : ls'.k = q.d) :
    LM C m0 w0 kb ov O q m ls' ((w.setCell ⟨kb, 0, none⟩ (.slice q.a q.d.nodes.length q.cap)).setCell ⟨kb, 1, none⟩ (.int .i64 q.d.root)) := by
  have hm : Mod (fun k => k = kb) w ((w.setCell ⟨kb, 0, none⟩ (.slice q.a q.d.nodes.length q.cap)).setCell ⟨kb, 1, none⟩ (.int .i64 q.d.root)) :=
    ((Mod.refl (fun k => k = kb) w).setCell (p := ⟨kb, 0, none⟩) (.inl rfl) _).setCell (p := ⟨kb, 1, none⟩) (.inl rfl) _
  have hmX : Mod (C.at' kb ov).X w ((w.setCell ⟨kb, 0, none⟩ (.slice q.a q.d.nodes.length q.cap)).setCell ⟨kb, 1, none⟩ (.int .i64 q.d.root)) := hm.mono (fun k _ e => .inr (.inl e))
  refine ⟨by rw [e1]; exact h.rm.write hmX, (h.box.setCell 0 _).setCell 1 _, e3.symm, hq.write hmX, h.row.mod hm (fun g e e4 => h.okb e e4), by rw [e2]; exact h.opens, fun x hx => ⟨(h.oin x hx).1.write hmX, (h.oin x hx).2.write hmX⟩, h.since.local hm (fun k e => by rw [e]; exact h.kB), h.kB⟩

/-- The row of open sections has grown. -/
theorem LM.push (h : LM C m0 w0 kb ov O kd m ls w) (x : SecV) {w2 : World} {g cap : Nat} (ho : Own 201 6 SecV.cells w0.heap.size w2 (.slice (some ⟨g, 0, none⟩) (O.length + 1) cap) (O ++ [x])) (hm : Mod (fun k => ov.ownBlock = some k) w w2)
    (hg : ov.ownBlock = some g ∨ w.heap.size ≤ g) (h1 : InR (ASet (C.at' kb ov) m) w x.outer.a (brCells x.outer.d.nodes)) (h2 : InR (ASet (C.at' kb ov) m) w x.rest.a (brCells x.rest.d.nodes)) {ls' : LS} (e1 : ls'.st = ls.st) (e2 : ls'.opens = ls.opens ++ [x.d]) (e3 : ls'.k = ls.k) :
    LM C m0 w0 kb (.slice (some ⟨g, 0, none⟩) (O.length + 1) cap) (O ++ [x]) kd m ls' w2 := by
  have hmX : Mod (C.at' kb ov).X w w2 := hm.mono (fun k _ e => .inr (.inr e))
  have hlt := (ho.lt (g := g) rfl).2
  have hX : ∀ k, LX C kb (.slice (some ⟨g, 0, none⟩) (O.length + 1) cap) k → (C.at' kb ov).X k ∨ (w.heap.size ≤ k ∧ k < w2.heap.size) := by
    intro k hk
    rcases hk with hk | hk | hk
    · exact .inl (.inl hk)
    · exact .inl (.inr (.inl hk))
    · cases hk
      rcases hg with e | e
      · exact .inl (.inr (.inr e))
      · exact .inr ⟨e, hlt⟩
  have hrm : RM ((C.at' kb ov).wX (LX C kb (.slice (some ⟨g, 0, none⟩) (O.length + 1) cap))) m ls.st w2 := h.rm.grow hmX hX
  refine ⟨by rw [e1]; exact hrm, h.box.mod hm (fun e => h.okb e rfl), by rw [e3]; exact h.hk, h.kin.grow hmX hX, ho, ?_, fun y hy => ?_, h.since.local hm (fun k e => (h.oge e).1), h.kB⟩
  · rw [e2, List.map_append, h.opens]; rfl
  · rcases List.mem_append.1 hy with hy | hy
    · exact ⟨(h.oin y hy).1.grow hmX hX, (h.oin y hy).2.grow hmX hX⟩
    · rw [List.mem_singleton] at hy
      subst hy
      exact ⟨h1.grow hmX hX, h2.grow hmX hX⟩

theorem secCells_length (O : List SecV) : (rowCells SecV.cells O).length = O.length * 6 := by
  induction O with
  | nil => rfl
  | cons y D ih =>
    have e : rowCells SecV.cells (y :: D) = y.cells ++ rowCells SecV.cells D := rfl
    rw [e, List.length_append, ih, List.length_cons]
    simp [SecV.cells]
    omega
theorem Own.pop {base g cap : Nat} {D : List SecV} {x : SecV} (h : Own 201 6 SecV.cells base w (.slice (some ⟨g, 0, none⟩) (D.length + 1) cap) (D ++ [x])) : Own 201 6 SecV.cells base w (.slice (some ⟨g, 0, none⟩) D.length cap) D := by
  obtain ⟨h1, h2⟩ := h
  refine ⟨secCells_length D, ?_⟩
  simp only [List.length_append, List.length_cons, List.length_nil, Nat.zero_add] at h2
  rcases h2 with ⟨h2, _⟩ | ⟨g', cap', cur, hv, hg, hh, h3, h4, h5, h6⟩
  · cases h2
  · cases hv
    refine .inr ⟨g, cap, cur, rfl, hg, hh, by omega, h4, h5, ?_⟩
    have := congrArg (List.take (D.length * 6)) h6
    rw [List.take_take, rowCells_append, List.take_append_of_le_length (by rw [secCells_length]; omega), List.take_of_length_le (i := D.length * 6) (l := rowCells SecV.cells D) (by rw [secCells_length]; omega), Nat.min_eq_left (by omega)] at this
    exact this

/-- The last section ends. -/
theorem LM.pop {g cap : Nat} {D : List SecV} {x : SecV} (h : LM C m0 w0 kb (.slice (some ⟨g, 0, none⟩) (D.length + 1) cap) (D ++ [x]) kd m ls w) {ls' : LS} (e1 : ls'.st = ls.st) (e2 : ls'.opens = ls.opens.dropLast) (e3 : ls'.k = ls.k) :
    LM C m0 w0 kb (.slice (some ⟨g, 0, none⟩) D.length cap) D kd m ls' w := by
  refine ⟨by rw [e1]; exact h.rm, h.box, by rw [e3]; exact h.hk, h.kin, h.row.pop, ?_, fun y hy => h.oin y (List.mem_append_left _ hy), h.since, h.kB⟩
  rw [e2, ← h.opens, List.map_append]
  simp
theorem LM.last (h : LM C m0 w0 kb ov O kd m ls w) (hne : ls.opens ≠ []) : ∃ D x g cap, O = D ++ [x] ∧ ov = .slice (some ⟨g, 0, none⟩) (D.length + 1) cap ∧ ls.opens.getLast? = some x.d := by
  have hO : O ≠ [] := fun e => hne (by rw [← h.opens, e]; rfl)
  obtain ⟨D, x, hD⟩ : ∃ D x, O = D ++ [x] := ⟨O.dropLast, O.getLast hO, (List.dropLast_concat_getLast hO).symm⟩
  rcases h.row.2 with ⟨_, h0⟩ | ⟨g, cp, cur, hv, _⟩
  · rw [hD] at h0
    simp at h0
  · refine ⟨D, x, g, cp, hD, ?_, ?_⟩
    · rw [hv, hD]; simp
    · rw [← h.opens, hD]; simp
/-- The cells of the last section. -/
theorem Own.lastCells {base g cap : Nat} {D : List SecV} {x : SecV} (h : Own 201 6 SecV.cells base w (.slice (some ⟨g, 0, none⟩) (D.length + 1) cap) (D ++ [x])) : ∃ cur, Blk w g cur 201 ∧ (∀ k, k < 6 → cur[D.length * 6 + k]? = x.cells[k]?) := by
  obtain ⟨h1, h2⟩ := h
  simp only [List.length_append, List.length_cons, List.length_nil, Nat.zero_add] at h2
  rcases h2 with ⟨h2, _⟩ | ⟨g', cap', cur, hv, hg, hh, h3, h4, h5, h6⟩
  · cases h2
  · cases hv
    refine ⟨cur, hh, fun k hk => ?_⟩
    have e : (cur.toList.take ((D.length + 1) * 6))[D.length * 6 + k]? = (rowCells SecV.cells (D ++ [x]))[D.length * 6 + k]? := by rw [h6]
    rw [List.getElem?_take, if_pos (by omega), rowCells_append, List.getElem?_append_right (by rw [secCells_length]; omega), secCells_length] at e
    rw [← Array.getElem?_toList, e, show D.length * 6 + k - D.length * 6 = k by omega]
    simp [rowCells]
/-- The last section has turned. -/
theorem Own.lastSet {base g cap : Nat} {D : List SecV} {x y : SecV} (h : Own 201 6 SecV.cells base w (.slice (some ⟨g, 0, none⟩) (D.length + 1) cap) (D ++ [x])) {cur cur' : Array Value} (hc : Blk w g cur 201) {w' : World} (hc' : Blk w' g cur' 201) (hs : cur'.size = cur.size)
    (hy : ∀ k, k < 6 → cur'[D.length * 6 + k]? = y.cells[k]?) (ho : ∀ j, j < D.length * 6 ∨ D.length * 6 + 6 ≤ j → cur'[j]? = cur[j]?) : Own 201 6 SecV.cells base w' (.slice (some ⟨g, 0, none⟩) (D.length + 1) cap) (D ++ [y]) := by
  obtain ⟨h1, h2⟩ := h
  simp only [List.length_append, List.length_cons, List.length_nil, Nat.zero_add] at h2
  rcases h2 with ⟨h2, _⟩ | ⟨g', cap', c2, hv, hg, hh, h3, h4, h5, h6⟩
  · cases h2
  · cases hv
    have ec : c2 = cur := by
      have e : some (Obj.cells c2 201 (0, 0)) = some (Obj.cells cur 201 (0, 0)) := hh.symm.trans hc
      cases e
      rfl
    subst ec
    refine ⟨by rw [rowCells_append, List.length_append, secCells_length]; simp [rowCells, SecV.cells]; omega, ?_⟩
    simp only [List.length_append, List.length_cons, List.length_nil, Nat.zero_add]
    refine .inr ⟨g, cap, cur', rfl, hg, hc', h3, h4, by rw [hs]; exact h5, ?_⟩
    apply List.ext_getElem?
    intro j
    have e : (c2.toList.take ((D.length + 1) * 6))[j]? = (rowCells SecV.cells (D ++ [x]))[j]? := by rw [h6]
    rw [List.getElem?_take, Array.getElem?_toList] at e
    rw [List.getElem?_take, Array.getElem?_toList]
    rw [rowCells_append] at e ⊢
    by_cases hj : j < D.length * 6
    · rw [List.getElem?_append_left (by rw [secCells_length]; exact hj)] at e ⊢
      rw [ho j (.inl hj)]
      exact e
    · rw [List.getElem?_append_right (by rw [secCells_length]; omega), secCells_length]
      by_cases hj2 : j < (D.length + 1) * 6
      · rw [if_pos hj2]
        have := hy (j - D.length * 6) (by omega)
        rw [show D.length * 6 + (j - D.length * 6) = j by omega] at this
        rw [this]
        simp [rowCells]
      · rw [if_neg hj2]
        symm
        rw [List.getElem?_eq_none_iff]
        simp [rowCells, SecV.cells]
        omega
end

theorem line_lt {text : List UInt8} (ht : text ≠ [] → text.getLast? = some 10) {pos : Nat} (hp : pos < text.length) :
    pos + (lineOf (text.drop pos)).length + 1 ≤ text.length ∧ Lib.indexByte (text.drop pos) 10 = ((lineOf (text.drop pos)).length : Int) := by
  have hne : text ≠ [] := fun e => by rw [e] at hp; simp at hp
  have hl := ht hne
  rcases indexByte_take (text.drop pos) 10 with ⟨_, e⟩ | ⟨e1, e2⟩
  · exfalso
    have hm : (10 : UInt8) ∈ text.drop pos := by
      have h1 : (text.drop pos).getLast? = some 10 := by
        rw [List.getLast?_drop, if_neg (by omega)]
        exact hl
      exact List.mem_of_getLast? h1
    have h2 : ∀ b ∈ (text.drop pos).takeWhile (fun b => b != 10), (b != 10) = true := fun b hb => by
      have := List.all_takeWhile (p := fun b : UInt8 => b != 10) (l := text.drop pos)
      rw [List.all_eq_true] at this
      exact this b hb
    rw [e] at h2
    have := h2 10 hm
    simp at this
  · refine ⟨?_, e1⟩
    have e2 : (lineOf (text.drop pos)).length < (text.drop pos).length := e2
    simp at e2
    omega
theorem line_take (text : List UInt8) (pos : Nat) : (text.drop pos).take (lineOf (text.drop pos)).length = lineOf (text.drop pos) := take_takeWhile _ _
end Go.Proofs.YtpekmohnjpbkgaaGreatDoor
