/- formula.Diagram at a formula in postorder: the sets of its nodes; in memory. formula.Diagram at a formula in postorder. -/
import Derived.Test.YtpekmohnjpbkgaaGreatDoorGroupI
namespace Go.Proofs.YtpekmohnjpbkgaaGreatDoor
open Go Go.RowKit

noncomputable def nodeDg (S : List Dg) (n : FN) : Dg :=
  if n.op = 0 then constD false else if n.op = 1 then constD true else if n.op = 2 then varD n.var
  else if n.op = 3 then notD (S.getD n.a.toNat ⟨[], 0⟩) else if n.op = 4 then andD (S.getD n.a.toNat ⟨[], 0⟩) (S.getD n.b.toNat ⟨[], 0⟩) else orD (S.getD n.a.toNat ⟨[], 0⟩) (S.getD n.b.toNat ⟨[], 0⟩)
noncomputable def dgsF (F : List FN) : List Dg := F.foldl (fun S n => S ++ [nodeDg S n]) []
theorem dgsF_snoc (F : List FN) (n : FN) : dgsF (F ++ [n]) = dgsF F ++ [nodeDg (dgsF F) n] := by simp [dgsF]
theorem dgsF_length (F : List FN) : (dgsF F).length = F.length := by
  revert F
  refine list_snoc rfl ?_
  intro l a ih
  rw [dgsF_snoc]; simp [ih]
theorem dgsF_take {F : List FN} {i : Nat} {x : FN} (h : F[i]? = some x) : dgsF (F.take (i + 1)) = dgsF (F.take i) ++ [nodeDg (dgsF (F.take i)) x] := by
  rw [List.take_add_one, h]
  exact dgsF_snoc _ _

theorem Tr.post_vars (k : Nat) (t : Tr) (ht : t.ok k) : ∀ o, ∀ n ∈ t.post o, n.op = 2 → 0 ≤ n.var ∧ n.var < k := by
  induction t with
  | con b =>
    intro o n hn h2
    simp [Tr.post] at hn
    subst hn
    cases b <;> simp at h2
  | var v =>
    intro o n hn h2
    simp [Tr.post] at hn
    subst hn
    exact ht
  | neg t ih =>
    intro o n hn h2
    simp only [Tr.post, List.mem_append, List.mem_singleton] at hn
    rcases hn with hn | rfl
    · exact ih ht o n hn h2
    · simp at h2
  | bin op l r ihl ihr =>
    intro o n hn h2
    simp only [Tr.post, List.mem_append, List.mem_singleton] at hn
    rcases hn with hn | hn | rfl
    · exact ihl ht.2.1 o n hn h2
    · exact ihr ht.2.2 _ n hn h2
    · rcases ht.1 with rfl | rfl <;> simp at h2

/-- The sets of the nodes so far are small, and mean what the nodes mean. -/
structure DgsOk (F : List FN) (S : List Dg) (T : List (Cfg → Bool)) : Prop where
  len : S.length = T.length
  ok : ∀ (j : Nat) (d : Dg), S[j]? = some d → Sm 6 d ∧ ∀ c, d.den c = (T.getD j (fun _ => false)) c
theorem DgsOk.get {F : List FN} {S : List Dg} {T : List (Cfg → Bool)} (h : DgsOk F S T) {a : Int} (h0 : 0 ≤ a) (h1 : a < S.length) : Sm 6 (S.getD a.toNat ⟨[], 0⟩) ∧ ∀ c, (S.getD a.toNat ⟨[], 0⟩).den c = (T.getD a.toNat (fun _ => false)) c := by
  have e : S[a.toNat]? = some (S.getD a.toNat ⟨[], 0⟩) := by
    rw [List.getD_eq_getElem?_getD, List.getElem?_eq_getElem (by omega)]
    rfl
  exact h.ok _ _ e
theorem DgsOk.snoc {F : List FN} {S : List Dg} {T : List (Cfg → Bool)} (h : DgsOk F S T) {n : FN} (hn : NodeOk F S.length n) (hv : n.op = 2 → 0 ≤ n.var ∧ n.var < 6) : DgsOk F (S ++ [nodeDg S n]) (T ++ [nodeSem T n]) := by
  have hl := h.len
  refine ⟨by simp [h.len], fun j d hd => ?_⟩
  rcases Nat.lt_or_ge j S.length with hj | hj
  · rw [List.getElem?_append_left hj] at hd
    have := h.ok j d hd
    rw [List.getD_eq_getElem?_getD, List.getElem?_append_left (by omega), ← List.getD_eq_getElem?_getD]
    exact this
  · rw [List.getElem?_append_right hj] at hd
    have h0 : j - S.length = 0 := by
      rcases Nat.lt_or_ge (j - S.length) 1 with h1 | h1
      · omega
      · rw [List.getElem?_eq_none (by simpa using h1)] at hd; cases hd
    rw [h0] at hd
    simp at hd
    subst hd
    rw [List.getD_eq_getElem?_getD, List.getElem?_append_right (by omega), show j - T.length = 0 by omega]
    simp only [List.getElem?_cons_zero, Option.getD_some]
    obtain ⟨op, var, na, nb⟩ := n
    simp only at hv
    rcases hn.ar with ⟨h1, h2, h3, h4⟩ | ⟨h1, h2, h3, h4, h5⟩ | ⟨h1, h2, h3, h4, h5⟩ | ⟨h1, h2, h3, h4, h5, h6⟩
    · simp only at h1
      rcases h1 with rfl | rfl
      · exact ⟨(Sm.const false).1, fun c => (Sm.const false).2 c⟩
      · exact ⟨(Sm.const true).1, fun c => (Sm.const true).2 c⟩
    · simp only at h1
      subst h1
      have k := Sm.var (hv rfl).1 (hv rfl).2
      exact ⟨k.1, fun c => k.2.1 c⟩
    · simp only at h1 h4 h5
      subst h1
      have k := h.get h4 h5
      have j := k.1.not
      refine ⟨j.1, fun c => ?_⟩
      show (notD _).den c = _
      rw [j.2.1, k.2]
      rfl
    · simp only at h1 h3 h4 h5 h6
      have k1 := h.get h3 h5
      have k2 := h.get h4 h6
      rcases h1 with rfl | rfl
      · have j := k1.1.and k2.1
        refine ⟨j.1, fun c => ?_⟩
        show (andD _ _).den c = _
        rw [j.2.1, k1.2, k2.2]
        rfl
      · have j := k1.1.or k2.1
        refine ⟨j.1, fun c => ?_⟩
        show (orD _ _).den c = _
        rw [j.2.1, k1.2, k2.2]
        rfl
theorem dgs_ok {F : List FN} (hF : WfF F) (hv : ∀ n ∈ F, n.op = 2 → 0 ≤ n.var ∧ n.var < 6) : ∀ i, i ≤ F.length → DgsOk F (dgsF (F.take i)) (semsF (F.take i) []) := by
  intro i
  induction i with
  | zero => intro _; exact ⟨rfl, fun j d h => by simp [dgsF] at h⟩
  | succ i ih =>
    intro hi
    have hx : F[i]? = some F[i] := List.getElem?_eq_getElem (by omega)
    have k := ih (by omega)
    have hl : (dgsF (F.take i)).length = i := by rw [dgsF_length]; simp; omega
    have e2 : semsF (F.take (i + 1)) [] = semsF (F.take i) [] ++ [nodeSem (semsF (F.take i) []) F[i]] := by
      rw [List.take_add_one, hx]
      exact semsF_snoc _ _ _
    rw [dgsF_take hx, e2]
    exact k.snoc (by rw [hl]; exact hF.node i _ hx) (hv _ (List.getElem_mem _))
theorem Tr.dgs_last (t : Tr) (ht : t.ok 6) (hs : t.size ≤ 512) : (dgsF (t.post 0)).getD (t.size - 1) ⟨[], 0⟩ = t.dg := by
  have hp := t.size_pos
  have hl := t.post_length 0
  have k := dgs_ok (t.wf (Tr.ok_mono (by omega) t ht) hs) (t.post_vars 6 ht 0) _ (Nat.le_refl _)
  rw [List.take_length] at k
  have g := k.get (a := ((t.size - 1 : Nat) : Int)) (by omega) (by rw [dgsF_length]; omega)
  simp only [Int.toNat_natCast] at g
  have d := t.dg_ok ht
  refine Sm.ext g.1 d.1 (fun c => ?_)
  rw [g.2, d.2, t.sems_last 6 ht]

/-! ### The sets of the nodes so far, in memory -/

structure Sets (g len : Nat) (w : World) (D : List DA) : Prop where
  blk : ∃ cur : Array Value, Blk w g cur 42 ∧ cur.size = len * 2 ∧ cur.toList.take (D.length * 2) = daCells D
  ok : ∀ x ∈ D, x.ok w ∧ ∀ b o, x.a = some ⟨b, o, none⟩ → g < b
  le : D.length ≤ len
theorem Sets.lt {g len : Nat} {w : World} {D : List DA} (h : Sets g len w D) : g < w.heap.size := by
  obtain ⟨cur, h1, _⟩ := h.blk
  exact h1.lt
theorem Sets.frozen {g len : Nat} {w : World} {D : List DA} (h : Sets g len w D) (i : Nat) : w.frozen? ⟨g, i, none⟩ = false := by
  obtain ⟨cur, h1, _⟩ := h.blk
  exact h1.frozen i
theorem Sets.below {g len : Nat} {w w' : World} {D : List DA} (h : Sets g len w D) (hb : Below w.heap.size w w') : Sets g len w' D := by
  obtain ⟨cur, h1, h2, h3⟩ := h.blk
  exact ⟨⟨cur, h1.mod (Mod.of_below (S := fun _ => False) hb) (fun h => h), h2, h3⟩, fun x hx => ⟨(h.ok x hx).1.below hb, (h.ok x hx).2⟩, h.le⟩
theorem Sets.get {g len : Nat} {w : World} {D : List DA} (h : Sets g len w D) {i : Nat} {x : DA} (hx : D[i]? = some x) :
    w.cell? ⟨g, i * 2, none⟩ = some (.slice x.a x.d.nodes.length x.cap) ∧ w.cell? ⟨g, i * 2 + 1, none⟩ = some (.int .i64 x.d.root) ∧ x.ok w := by
  obtain ⟨cur, h1, h2, h3⟩ := h.blk
  have hi : i < D.length := (List.getElem?_eq_some_iff.1 hx).1
  have key : ∀ k, k < 2 → cur[i * 2 + k]? = (DA.cells x)[k]? := by
    intro k hk
    have f := flat2 DA.cells (fun _ => rfl) D i k hk
    have h4 := congrArg (fun l => l[i * 2 + k]?) h3
    rw [List.getElem?_take, if_pos (by omega)] at h4
    rw [← Array.getElem?_toList, h4]
    unfold daCells
    rw [f, hx]
    rfl
  exact ⟨by rw [h1.cell]; exact key 0 (by omega), by rw [h1.cell]; exact key 1 (by omega), (h.ok x (List.mem_of_getElem? hx)).1⟩
theorem take_set_after {α : Type} (l : List α) (n i : Nat) (x : α) (h : n ≤ i) : (l.set i x).take n = l.take n := by
  rw [List.take_set_of_le h]
theorem Sets.put {g len : Nat} {w : World} {D : List DA} (h : Sets g len w D) (y : DA) (hy : y.ok w) (hyg : ∀ b o, y.a = some ⟨b, o, none⟩ → g < b) (hl : D.length < len) :
    Sets g len ((w.setCell ⟨g, D.length * 2, none⟩ (.slice y.a y.d.nodes.length y.cap)).setCell ⟨g, D.length * 2 + 1, none⟩ (.int .i64 y.d.root)) (D ++ [y]) := by
  obtain ⟨cur, h1, h2, h3⟩ := h.blk
  refine ⟨⟨_, (h1.setCell (D.length * 2) (.slice y.a y.d.nodes.length y.cap)).setCell (D.length * 2 + 1) (.int .i64 y.d.root), by simpa using h2, ?_⟩, fun x hx => ?_, by simp; omega⟩
  · have hs : cur.toList.length = len * 2 := by simpa using h2
    simp only [Array.toList_setIfInBounds, List.length_append, List.length_cons, List.length_nil]
    have e : (D.length + (0 + 1)) * 2 = D.length * 2 + 1 + 1 := by omega
    rw [e, List.take_add_one, List.take_add_one]
    rw [List.take_set_of_le (by omega), List.take_set_of_le (by omega), h3]
    rw [List.getElem?_set_ne (by omega), List.getElem?_set_self (by omega), List.getElem?_set_self (by simp; omega)]
    simp [daCells, DA.cells]
  · have hm : Mod (fun k => k = g) w ((w.setCell ⟨g, D.length * 2, none⟩ (.slice y.a y.d.nodes.length y.cap)).setCell ⟨g, D.length * 2 + 1, none⟩ (.int .i64 y.d.root)) :=
      ((Mod.refl (fun k => k = g) w).setCell (p := ⟨g, D.length * 2, none⟩) (.inl rfl) _).setCell (p := ⟨g, D.length * 2 + 1, none⟩) (.inl rfl) _
    have key : ∀ z : DA, z.ok w → (∀ b o, z.a = some ⟨b, o, none⟩ → g < b) → z.ok ((w.setCell ⟨g, D.length * 2, none⟩ (.slice y.a y.d.nodes.length y.cap)).setCell ⟨g, D.length * 2 + 1, none⟩ (.int .i64 y.d.root)) := by
      intro z hz hg
      exact Rd.mod hz hm (fun b o e _ => by have := hg b o e; omega)
    rcases List.mem_append.1 hx with hx | hx
    · exact ⟨key x (h.ok x hx).1 (h.ok x hx).2, (h.ok x hx).2⟩
    · rw [List.mem_singleton] at hx
      subst hx
      exact ⟨key x hy hyg, hyg⟩
end Go.Proofs.YtpekmohnjpbkgaaGreatDoor

namespace Go.Proofs.YtpekmohnjpbkgaaGreatDoor
open Go Go.RowKit
set_option maxHeartbeats 1000000
set_option maxRecDepth 100000
attribute [local go_sem ↓] Go.wp_at_zero Go.wp_at_succ

theorem info42 : (Tryz.prog.info? 42).map (fun i => (i.zero, i.size, i.bytes)) = some (some (.agg #[.slice none 0 0, .int .i64 0]), 2, 32) := by kernel_rfl

theorem sets_start {w2 : World} {base g len : Nat} {xs : List Value} (h : w2.ownsRow base 42 2 (.slice (some ⟨g, 0, none⟩) len len) len xs) : Sets g len w2 [] := by
  rcases h.2 with ⟨h1, _⟩ | ⟨g', cap, cur, hv, _, hh, _, _, hs, _⟩
  · cases h1
  · cases hv
    exact ⟨⟨cur, hh, hs, rfl⟩, (fun x hx => by cases hx), by simp⟩

theorem Sets.here {g len : Nat} {w : World} {D : List DA} (h : Sets g len w D) {i : Nat} (hi : i < len) : ∃ u v, w.cell? ⟨g, i * 2, none⟩ = some u ∧ w.cell? ⟨g, i * 2 + 1, none⟩ = some v := by
  obtain ⟨cur, h1, h2, _⟩ := h.blk
  refine ⟨cur[i * 2]'(by omega), cur[i * 2 + 1]'(by omega), ?_, ?_⟩
  · rw [h1.cell]; exact Array.getElem?_eq_getElem _
  · rw [h1.cell]; exact Array.getElem?_eq_getElem _
theorem below_sets {w w4 : World} {g i : Nat} (h : Below w.heap.size w w4) (hg : w.heap.size < g) (u v : Value) : Below w.heap.size w ((w4.setCell ⟨g, i * 2, none⟩ u).setCell ⟨g, i * 2 + 1, none⟩ v) :=
  (h.setCell (p := ⟨g, i * 2, none⟩) (Nat.le_of_lt hg) u).setCell (p := ⟨g, i * 2 + 1, none⟩) (Nat.le_of_lt hg) v
theorem blk_sets {w w4 : World} {g i : Nat} {c : Array Value} {e : TypeId} (h : Blk w4 w.heap.size c e) (hg : w.heap.size < g) (u v : Value) : Blk ((w4.setCell ⟨g, i * 2, none⟩ u).setCell ⟨g, i * 2 + 1, none⟩ v) w.heap.size c e :=
  (h.setCell_other (p := ⟨g, i * 2, none⟩) (by show g ≠ w.heap.size; omega) u).setCell_other (p := ⟨g, i * 2 + 1, none⟩) (by show g ≠ w.heap.size; omega) v

set_option maxHeartbeats 4000000 in
theorem fdiagram_any (t : Tr) (ht : t.ok 6) (hs : t.size ≤ 512) (a : Option Addr) (cap : Nat) (hcap : t.size ≤ cap) (w : World) (hr : Rd w a (rowCells FN.cells (t.post 0))) :
    Calls Tryz.prog 198 #[.slice a t.size cap] w (DgPost2 w t.dg 0) := by
  have hlen := t.post_length 0
  have hp := t.size_pos
  have hF := t.wf (Tr.ok_mono (by omega) t ht) hs
  have hv := t.post_vars 6 ht 0
  have hlast := t.dgs_last ht hs
  have hdg := dgs_ok hF hv
  generalize hFF : t.post 0 = F at *
  clear hFF
  have hb0 : Below w.heap.size w (w.alloc (.cells #[.slice none 0 0, .int .i64 0] 42)) := (Below.refl _ _).alloc (Nat.le_refl _) _
  have kr := Blk.new w #[.slice none 0 0, .int .i64 0] 42
  have fc := fcheck_any F hF a cap (by omega) _ (hr.below hb0)
  rw [hlen] at fc
  generalize hd : t.dg = dd at *
  generalize hn : t.size = len at *
  clear hd hn ht
  have HN := Lib.hid hlen
  have HL := Lib.hid hlast
  clear hlen hlast
  obtain ⟨iz, hi, hz0, hz1, hz2⟩ := info_parts info42
  go_enter Tryz.func198, Tryz.ntmps198
  go_wp2_with fail
  refine fc.mono ?_
  clear fc
  rintro e w1 ⟨rfl, b1⟩
  have bw1 : Below w.heap.size w w1 := hb0.trans (b1.mono (by simp))
  have kr1 := kr.mod (Mod.of_below (S := fun _ => False) b1) (fun h => h)
  go_wp2_with (at_make; refine wpList_make_full _ rfl _ _ 226 rfl w.heap.size 42 iz (.agg #[.slice none 0 0, .int .i64 0]) 2 Tryz.underlying226 hi hz0 hz1 .i64 .i64 _ _ len rfl rfl rfl rfl (by rw [hz2]; omega) (by unfold maxLen; omega) (by have := bw1.size; omega) ?_)
  intro w2 own2 grow2
  have st2 := sets_start own2
  have bw2 : Below w.heap.size w w2 := bw1.trans ((Mod.of_grown grow2).below bw1.size (fun k _ e => by cases e))
  have kr2 := kr1.mod (Mod.of_grown grow2) (fun e => by cases e)
  have hg : w.heap.size < w1.heap.size := kr1.lt
  clear own2 grow2
  generalize w1.heap.size = g at *
  clear b1 kr kr1 bw1 hb0
  go_wp2_with fail
  go_loopg [17, 5, 6, 7] (len + 1) (fun k ct u5 u6 u7 wr => ∃ (i : Nat) (D : List DA), i ≤ len ∧ k + i = len + 1 ∧ ct = .int .i64 i ∧ D.length = i ∧ Hid (D.map DA.d = dgsF (F.take i)) ∧ Sets g len wr D ∧ Below w.heap.size w wr ∧ Blk wr w.heap.size #[.slice none 0 0, .int .i64 0] 42)
  case atStart => exact ⟨0, [], Nat.zero_le _, rfl, rfl, rfl, Lib.hid rfl, st2, bw2, kr2⟩
  case round =>
    obtain ⟨i, D, hi, hk, rfl, hDl, HD, st, bw, kr3⟩ := hrel
    by_cases hlt : i < len
    · obtain ⟨x, hx⟩ : ∃ x, F[i]? = some x := ⟨F[i]'(by have := HN.out; omega), List.getElem?_eq_getElem _⟩
      obtain ⟨b, o, rfl, hb, hc⟩ := (hr.below bw).elem (c := 4) (fun _ => rfl) (by omega) hx
      have x0 := hc 0 (by omega)
      have x1 := hc 1 (by omega)
      have x2 := hc 2 (by omega)
      have x3 := hc 3 (by omega)
      have hnode := (hF.node i x hx).ar
      have hvx := hv x (List.mem_of_getElem? hx)
      have hdt := dgsF_take hx
      have HT := Lib.hid hdt
      have i0 : (0 : Int) ≤ (i : Int) := by omega
      have i1 : (i : Int) < (len : Int) := by omega
      have hsm : ∀ (j : Nat) (z : DA), D[j]? = some z → Sm 6 z.d := by
        intro j z hz
        have := (hdg i (by have := HN.out; omega)).ok j z.d (by rw [← HD.out, List.getElem?_map, hz]; rfl)
        exact this.1
      have SM := Lib.hid hsm
      clear hc hx hdt hsm
      obtain ⟨op, var, na, nb⟩ := x
      simp [FN.cells] at x0 x1 x2 x3
      simp only at hnode hvx
      have kx := Blk.new wr #[.int .i64 op, .int .i64 var, .int .i64 na, .int .i64 nb] 309
      have stx := st.below ((Below.refl _ _).alloc (Nat.le_refl _) (.cells #[.int .i64 op, .int .i64 var, .int .i64 na, .int .i64 nb] 309))
      have bwx := bw.alloc bw.size (.cells #[.int .i64 op, .int .i64 var, .int .i64 na, .int .i64 nb] 309)
      have krx := kr3.alloc (.cells #[.int .i64 op, .int .i64 var, .int .i64 na, .int .i64 nb] 309)
      have hgx := st.lt
      have hg0 : w.heap.size < g := hg
      rcases hnode with ⟨h1, h2, h3, h4⟩ | ⟨h1, h2, h3, h4, h5⟩ | ⟨h1, h2, h3, h4, h5⟩ | ⟨h1, h2, h3, h4, h5, h6⟩
      · subst h2 h3 h4
        rcases h1 with rfl | rfl
        · have cst := constant_any false (wr.alloc (.cells #[.int .i64 0, .int .i64 0, .int .i64 0, .int .i64 0] 309))
          have kx0 := kx.cell 0
          simp at kx0
          go_wp2_with fail
          refine cst.mono ?_
          clear cst
          rintro e w4 ⟨aD, capD, rfl, p1, p2, b4⟩
          have m4 := Mod.of_below (S := fun _ => False) b4
          have st4 := stx.below b4
          have kr4 := krx.mod m4 (fun h => h)
          have bw4 := bwx.trans (b4.mono bwx.size)
          have hy : ∀ b o, aD = some ⟨b, o, none⟩ → g < b := fun b o e => Nat.lt_of_lt_of_le stx.lt (p2 b o e)
          have hst4 := st4.lt
          have f0 := st4.frozen (i * 2)
          have f1 := st4.frozen (i * 2 + 1)
          obtain ⟨u0, u1, z0, z1⟩ := st4.here (i := i) (by omega)
          go_wp2_with fail
          have bw5 : Below w.heap.size w _ := below_sets bw4 (i := i) hg0 (.slice aD (constD false).nodes.length capD) (.int .i64 (constD false).root)
          have kr5 := blk_sets kr4 (i := i) hg0 (.slice aD (constD false).nodes.length capD) (.int .i64 (constD false).root)
          go_roundg (len - i)
          case measure => omega
          case rel =>
            refine ⟨i + 1, D ++ [⟨(constD false), aD, capD⟩], by omega, by omega, by go_num, by simp; omega, Lib.hid ?_, ?_, bw5, kr5⟩
            · rw [HT.out, ← HD.out, List.map_append]
              rfl
            · have := st4.put ⟨(constD false), aD, capD⟩ p1 hy (by omega)
              rw [hDl] at this
              exact this
        · have cst := constant_any true (wr.alloc (.cells #[.int .i64 1, .int .i64 0, .int .i64 0, .int .i64 0] 309))
          have kx0 := kx.cell 0
          simp at kx0
          go_wp2_with fail
          refine cst.mono ?_
          clear cst
          rintro e w4 ⟨aD, capD, rfl, p1, p2, b4⟩
          have m4 := Mod.of_below (S := fun _ => False) b4
          have st4 := stx.below b4
          have kr4 := krx.mod m4 (fun h => h)
          have bw4 := bwx.trans (b4.mono bwx.size)
          have hy : ∀ b o, aD = some ⟨b, o, none⟩ → g < b := fun b o e => Nat.lt_of_lt_of_le stx.lt (p2 b o e)
          have hst4 := st4.lt
          have f0 := st4.frozen (i * 2)
          have f1 := st4.frozen (i * 2 + 1)
          obtain ⟨u0, u1, z0, z1⟩ := st4.here (i := i) (by omega)
          go_wp2_with fail
          have bw5 : Below w.heap.size w _ := below_sets bw4 (i := i) hg0 (.slice aD (constD true).nodes.length capD) (.int .i64 (constD true).root)
          have kr5 := blk_sets kr4 (i := i) hg0 (.slice aD (constD true).nodes.length capD) (.int .i64 (constD true).root)
          go_roundg (len - i)
          case measure => omega
          case rel =>
            refine ⟨i + 1, D ++ [⟨(constD true), aD, capD⟩], by omega, by omega, by go_num, by simp; omega, Lib.hid ?_, ?_, bw5, kr5⟩
            · rw [HT.out, ← HD.out, List.map_append]
              rfl
            · have := st4.put ⟨(constD true), aD, capD⟩ p1 hy (by omega)
              rw [hDl] at this
              exact this
      · subst h1 h4 h5
        have hvar := Sm.var (hvx rfl).1 (hvx rfl).2
        have cst := var_any var (wr.alloc (.cells #[.int .i64 2, .int .i64 var, .int .i64 0, .int .i64 0] 309))
        rw [hvar.2.2] at cst
        clear hvar
        have kx0 := kx.cell 0
        have kx1 := kx.cell 1
        simp at kx0 kx1
        go_wp2_with fail
        refine cst.mono ?_
        clear cst
        rintro e w4 ⟨aD, capD, rfl, p1, p2, b4⟩
        have m4 := Mod.of_below (S := fun _ => False) b4
        have st4 := stx.below b4
        have kr4 := krx.mod m4 (fun h => h)
        have bw4 := bwx.trans (b4.mono bwx.size)
        have hy : ∀ b o, aD = some ⟨b, o, none⟩ → g < b := fun b o e => Nat.lt_of_lt_of_le stx.lt (p2 b o e)
        have hst4 := st4.lt
        have f0 := st4.frozen (i * 2)
        have f1 := st4.frozen (i * 2 + 1)
        obtain ⟨u0, u1, z0, z1⟩ := st4.here (i := i) (by omega)
        go_wp2_with fail
        have bw5 : Below w.heap.size w _ := below_sets bw4 (i := i) hg0 (.slice aD (varD var).nodes.length capD) (.int .i64 (varD var).root)
        have kr5 := blk_sets kr4 (i := i) hg0 (.slice aD (varD var).nodes.length capD) (.int .i64 (varD var).root)
        go_roundg (len - i)
        case measure => omega
        case rel =>
          refine ⟨i + 1, D ++ [⟨(varD var), aD, capD⟩], by omega, by omega, by go_num, by simp; omega, Lib.hid ?_, ?_, bw5, kr5⟩
          · rw [HT.out, ← HD.out, List.map_append]
            rfl
          · have := st4.put ⟨(varD var), aD, capD⟩ p1 hy (by omega)
            rw [hDl] at this
            exact this
      · subst h1 h2 h3
        obtain ⟨y, hy1⟩ : ∃ y, D[na.toNat]? = some y := ⟨D[na.toNat]'(by omega), List.getElem?_eq_getElem _⟩
        have hys := (SM.out _ _ hy1).not
        obtain ⟨y0, y1, yok⟩ := stx.get hy1
        have cst := not_any y _ yok
        rw [hys.2.2] at cst
        clear hys
        have hyd : (dgsF (F.take i)).getD na.toNat ⟨[], 0⟩ = y.d := by rw [← HD.out, List.getD_eq_getElem?_getD, List.getElem?_map, hy1]; rfl
        have HY := Lib.hid hyd
        clear hyd hy1
        obtain ⟨d, da, dc⟩ := y
        simp only [DA.val] at cst y0 y1
        have kx0 := kx.cell 0
        have kx2 := kx.cell 2
        simp at kx0 kx2
        go_wp2_with fail
        refine cst.mono ?_
        clear cst
        rintro e w4 ⟨aD, capD, rfl, p1, p2, b4⟩
        have m4 := Mod.of_below (S := fun _ => False) b4
        have st4 := stx.below b4
        have kr4 := krx.mod m4 (fun h => h)
        have bw4 := bwx.trans (b4.mono bwx.size)
        have hy : ∀ b o, aD = some ⟨b, o, none⟩ → g < b := fun b o e => Nat.lt_of_lt_of_le stx.lt (p2 b o e)
        have hst4 := st4.lt
        have f0 := st4.frozen (i * 2)
        have f1 := st4.frozen (i * 2 + 1)
        obtain ⟨u0, u1, z0, z1⟩ := st4.here (i := i) (by omega)
        go_wp2_with fail
        have bw5 : Below w.heap.size w _ := below_sets bw4 (i := i) hg0 (.slice aD (notD d).nodes.length capD) (.int .i64 (notD d).root)
        have kr5 := blk_sets kr4 (i := i) hg0 (.slice aD (notD d).nodes.length capD) (.int .i64 (notD d).root)
        go_roundg (len - i)
        case measure => omega
        case rel =>
          refine ⟨i + 1, D ++ [⟨(notD d), aD, capD⟩], by omega, by omega, by go_num, by simp; omega, Lib.hid ?_, ?_, bw5, kr5⟩
          · rw [HT.out, ← HD.out, List.map_append]
            simp only [nodeDg]; rw [HD.out, HY.out]; rfl
          · have := st4.put ⟨(notD d), aD, capD⟩ p1 hy (by omega)
            rw [hDl] at this
            exact this
      · subst h2
        obtain ⟨y, hy1⟩ : ∃ y, D[na.toNat]? = some y := ⟨D[na.toNat]'(by omega), List.getElem?_eq_getElem _⟩
        obtain ⟨z, hz1⟩ : ∃ z, D[nb.toNat]? = some z := ⟨D[nb.toNat]'(by omega), List.getElem?_eq_getElem _⟩
        have hyd : (dgsF (F.take i)).getD na.toNat ⟨[], 0⟩ = y.d := by rw [← HD.out, List.getD_eq_getElem?_getD, List.getElem?_map, hy1]; rfl
        have hzd : (dgsF (F.take i)).getD nb.toNat ⟨[], 0⟩ = z.d := by rw [← HD.out, List.getD_eq_getElem?_getD, List.getElem?_map, hz1]; rfl
        have HY := Lib.hid hyd
        have HZ := Lib.hid hzd
        clear hyd hzd
        obtain ⟨y0, y1, yok⟩ := stx.get hy1
        obtain ⟨z0, z1, zok⟩ := stx.get hz1
        rcases h1 with rfl | rfl
        · have hys := (SM.out _ _ hy1).and (SM.out _ _ hz1)
          have cst : ∀ W, Below (wr.alloc (.cells #[.int .i64 4, .int .i64 0, .int .i64 na, .int .i64 nb] 309)).heap.size (wr.alloc (.cells #[.int .i64 4, .int .i64 0, .int .i64 na, .int .i64 nb] 309)) W → Calls Tryz.prog 91 #[y.val, z.val] W (DgPost2 W (andD y.d z.d) 0) := by
            intro W hW
            have := and_any y z W (yok.below hW) (zok.below hW)
            rw [hys.2.2] at this
            exact this
          clear hys hy1 hz1
          obtain ⟨d, da, dc⟩ := y
          obtain ⟨d2, da2, dc2⟩ := z
          simp only [DA.val] at cst y0 y1 z0 z1
          have CST := Lib.hid cst
          clear cst
          have hna : na.toNat < len := by omega
          have hnb : nb.toNat < len := by omega
          have hna2 : na < (len : Int) := by omega
          have hnb2 : nb < (len : Int) := by omega
          go_upto_region 17 with fail
          go_region_with ((go_at_call 91; refine (CST.out _ (by exact (Below.refl _ _).drew)).mono ?_; rintro e w4 ⟨aD, capD, rfl, p1, p2, b4⟩; have b5 := ((Below.refl _ (wr.alloc (.cells #[.int .i64 4, .int .i64 0, .int .i64 na, .int .i64 nb] 309))).drew).trans b4; have st4 := stx.below b5; have hst4 := st4.lt; have f0 := st4.frozen (i * 2); have f1 := st4.frozen (i * 2 + 1); obtain ⟨u0, u1, z0', z1'⟩ := st4.here (i := i) (by omega)))
          all_goals
            go_wp2_with fail
            have hy : ∀ b o, aD = some ⟨b, o, none⟩ → g < b := fun b o e => Nat.lt_of_lt_of_le stx.lt (p2 b o e)
            have bw4 := bwx.trans (b5.mono bwx.size)
            have kr4 := krx.mod (Mod.of_below (S := fun _ => False) b5) (fun h => h)
            have bw5 := below_sets bw4 (i := i) hg0 (.slice aD (andD d d2).nodes.length capD) (.int .i64 (andD d d2).root)
            have kr5 := blk_sets kr4 (i := i) hg0 (.slice aD (andD d d2).nodes.length capD) (.int .i64 (andD d d2).root)
            go_roundg (len - i)
            case measure => omega
            case rel =>
              refine ⟨i + 1, D ++ [⟨andD d d2, aD, capD⟩], by omega, by omega, by go_num, by simp; omega, Lib.hid ?_, ?_, bw5, kr5⟩
              · rw [HT.out, ← HD.out, List.map_append]
                simp only [nodeDg]
                rw [HD.out, HY.out, HZ.out]
                rfl
              · have := st4.put ⟨andD d d2, aD, capD⟩ p1 hy (by omega)
                rw [hDl] at this
                exact this
        · have hys := (SM.out _ _ hy1).or (SM.out _ _ hz1)
          have cst : ∀ W, Below (wr.alloc (.cells #[.int .i64 5, .int .i64 0, .int .i64 na, .int .i64 nb] 309)).heap.size (wr.alloc (.cells #[.int .i64 5, .int .i64 0, .int .i64 na, .int .i64 nb] 309)) W → Calls Tryz.prog 54 #[y.val, z.val] W (DgPost2 W (orD y.d z.d) 0) := by
            intro W hW
            have := or_any y z W (yok.below hW) (zok.below hW)
            rw [hys.2.2] at this
            exact this
          clear hys hy1 hz1
          obtain ⟨d, da, dc⟩ := y
          obtain ⟨d2, da2, dc2⟩ := z
          simp only [DA.val] at cst y0 y1 z0 z1
          have CST := Lib.hid cst
          clear cst
          have hna : na.toNat < len := by omega
          have hnb : nb.toNat < len := by omega
          have hna2 : na < (len : Int) := by omega
          have hnb2 : nb < (len : Int) := by omega
          go_upto_region 19 with fail
          go_region_with ((go_at_call 54; refine (CST.out _ (by exact (Below.refl _ _).drew)).mono ?_; rintro e w4 ⟨aD, capD, rfl, p1, p2, b4⟩; have b5 := ((Below.refl _ (wr.alloc (.cells #[.int .i64 5, .int .i64 0, .int .i64 na, .int .i64 nb] 309))).drew).trans b4; have st4 := stx.below b5; have hst4 := st4.lt; have f0 := st4.frozen (i * 2); have f1 := st4.frozen (i * 2 + 1); obtain ⟨u0, u1, z0', z1'⟩ := st4.here (i := i) (by omega)))
          all_goals
            go_wp2_with fail
            have hy : ∀ b o, aD = some ⟨b, o, none⟩ → g < b := fun b o e => Nat.lt_of_lt_of_le stx.lt (p2 b o e)
            have bw4 := bwx.trans (b5.mono bwx.size)
            have kr4 := krx.mod (Mod.of_below (S := fun _ => False) b5) (fun h => h)
            have bw5 := below_sets bw4 (i := i) hg0 (.slice aD (orD d d2).nodes.length capD) (.int .i64 (orD d d2).root)
            have kr5 := blk_sets kr4 (i := i) hg0 (.slice aD (orD d d2).nodes.length capD) (.int .i64 (orD d d2).root)
            go_roundg (len - i)
            case measure => omega
            case rel =>
              refine ⟨i + 1, D ++ [⟨orD d d2, aD, capD⟩], by omega, by omega, by go_num, by simp; omega, Lib.hid ?_, ?_, bw5, kr5⟩
              · rw [HT.out, ← HD.out, List.map_append]
                simp only [nodeDg]
                rw [HD.out, HY.out, HZ.out]
                rfl
              · have := st4.put ⟨orD d d2, aD, capD⟩ p1 hy (by omega)
                rw [hDl] at this
                exact this
    · have : i = len := by omega
      subst this
      have ht : F.take i = F := List.take_of_length_le (by rw [HN.out]; exact Nat.le_refl _)
      obtain ⟨x, hx⟩ : ∃ x, D[i - 1]? = some x := ⟨D[i - 1]'(by omega), List.getElem?_eq_getElem _⟩
      have hxd : x.d = dd := by
        have h1 := HD.out
        rw [ht] at h1
        have h2 := HL.out
        rw [← h1, List.getD_eq_getElem?_getD, List.getElem?_map, hx] at h2
        exact h2
      have ok := (st.ok x (List.mem_of_getElem? hx)).1
      have hgg := (st.ok x (List.mem_of_getElem? hx)).2
      obtain ⟨c0, c1, -⟩ := st.get hx
      have hst := st.lt
      have f0 := kr3.frozen 0
      have f1 := kr3.frozen 1
      have hkr := kr3.lt
      have y0 := kr3.cell 0
      have y1 := kr3.cell 1
      simp at y0 y1
      have i0 : (1 : Int) ≤ (i : Int) := by omega
      obtain ⟨d, da, dc⟩ := x
      simp only at hxd
      subst hxd
      clear hx
      simp only at c0 c1
      go_wp2_with fail
      have kr4 := (kr3.setCell 0 (.slice da d.nodes.length dc)).setCell 1 (.int .i64 d.root)
      have z0 := kr4.cell 0
      have z1 := kr4.cell 1
      simp at z0 z1
      have hge : ∀ b o, da = some ⟨b, o, none⟩ → w.heap.size < b := fun b o e => by have := hgg b o e; omega
      exact bodyPost_ret (v := .tuple #[.agg #[.slice da d.nodes.length dc, .int .i64 d.root], .int .i64 0]) (by simp [results, Tryz.results198, go_sem, z0, z1]) rfl
        ⟨da, dc, rfl, rd_two_stores ok (fun b o e => by have := hge b o e; omega) _ _, fun b o e => by have := hge b o e; omega, below_two bw (Nat.le_refl _) _ _⟩
end Go.Proofs.YtpekmohnjpbkgaaGreatDoor
