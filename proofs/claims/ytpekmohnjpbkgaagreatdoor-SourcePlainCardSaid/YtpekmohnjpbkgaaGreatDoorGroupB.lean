/- The program's own types: keys of maps, rows of branches that the call owns. The builder of decision diagrams: branches made unique. The program's canonical numbering: the closure 'visit' and the function 'diagram' of the builder. The builder of decision diagrams: what it hands back is the canonical numbering. Small functions of package diagram and of its reference: level, sides, Same, Constant, Var. -/
import Derived.Test.YtpekmohnjpbkgaaGreatDoorProg
import Derived.Test.YtpekmohnjpbkgaaGreatDoorGroupA
import Derived.ChangeKeysEq
import Derived.Deep.RegionLaw
import Derived.Deep.DrawnRows
import Derived.Deep.DeepCutAuto
import Derived.Maps.OwnOps
import Derived.Laws.EntriesVeiled
namespace Go.Proofs.YtpekmohnjpbkgaaGreatDoor
open Go Go.RowKit

def Br.val (b : Br) : Value := .agg #[.int .i64 b.var, .int .i64 b.low, .int .i64 b.high]
theorem key_br : KeyTy Tryz.prog 161 Br.val := by
  refine KeyTy.of_equal (by kernel_rfl) ?_ ?_ ?_
  · intro em x w
    kernel_rfl
  · intro x y w
    have h : (Op.equal 161 x.val y.val).run Tryz.prog w = .ok (x.var == y.var && (x.low == y.low && x.high == y.high)) w := by
      simp only [Op.equal, Op.maxDepth, Br.val]
      simp [go_sem]
      by_cases h1 : x.var = y.var <;> by_cases h2 : x.low = y.low <;> by_cases h3 : x.high = y.high <;> simp [h1, h2, h3]
    rw [h]
    refine congrArg (fun r => Result.ok r w) ?_
    cases x; cases y
    rw [Bool.eq_iff_iff]; simp
  · intro x
    have h : ∀ n, Instr.sameBits (n + 1 + 1) x.val x.val = true := fun n => by simp [Br.val, Instr.sameBits]
    have h' := h 9998
    simp only [Nat.reduceAdd] at h'
    exact h'
theorem equal_br (x y : Br) (w : World) : (Op.equal 161 x.val y.val).run Tryz.prog w = .ok (decide (x = y)) w := by
  have h : (Op.equal 161 x.val y.val).run Tryz.prog w = .ok (x.var == y.var && (x.low == y.low && x.high == y.high)) w := by
    simp only [Op.equal, Op.maxDepth, Br.val]
    simp [go_sem]
    by_cases h1 : x.var = y.var <;> by_cases h2 : x.low = y.low <;> by_cases h3 : x.high = y.high <;> simp [h1, h2, h3]
  rw [h]
  refine congrArg (fun r => Result.ok r w) ?_
  cases x; cases y
  rw [Bool.eq_iff_iff]; simp
theorem run_eql_br (x y : Br) (w : World) : (binOp .eql 161 (.agg #[.int .i64 x.var, .int .i64 x.low, .int .i64 x.high]) (.agg #[.int .i64 y.var, .int .i64 y.low, .int .i64 y.high])).run Tryz.prog w = .ok (.bool (decide (x = y))) w := by
  have h := equal_br x y w
  simp only [Br.val] at h
  simp only [binOp, Sem.run_bind, h, Result.andThen_ok, Sem.run_pure]
theorem run_neq_br (x y : Br) (w : World) : (binOp .neq 161 (.agg #[.int .i64 x.var, .int .i64 x.low, .int .i64 x.high]) (.agg #[.int .i64 y.var, .int .i64 y.low, .int .i64 y.high])).run Tryz.prog w = .ok (.bool (!decide (x = y))) w := by
  have h := equal_br x y w
  simp only [Br.val] at h
  simp only [binOp, Sem.run_bind, h, Result.andThen_ok, Sem.run_pure]
theorem info3 : (Tryz.prog.info? 3).map (fun i => (i.zero, i.size, i.bytes)) = some (some (.int .i64 0), 1, 8) := by kernel_rfl
theorem info161 : (Tryz.prog.info? 161).map (fun i => (i.zero, i.size, i.bytes)) = some (some (.agg #[.int .i64 0, .int .i64 0, .int .i64 0]), 3, 24) := by kernel_rfl
theorem zero3 (w : World) : (zeroValue 3).run Tryz.prog w = .ok (.int .i64 0) w := by kernel_rfl
theorem zero4 (w : World) : (zeroValue 4).run Tryz.prog w = .ok (.bool false) w := by kernel_rfl
def t3 (x : Int × Int × Int) : Value := .agg #[.int .i64 x.1, .int .i64 x.2.1, .int .i64 x.2.2]
theorem key_t3 : KeyTy Tryz.prog 292 t3 := by
  refine KeyTy.of_equal (by kernel_rfl) ?_ ?_ ?_
  · intro em x w
    kernel_rfl
  · intro x y w
    have h : (Op.equal 292 (t3 x) (t3 y)).run Tryz.prog w = .ok (x.1 == y.1 && (x.2.1 == y.2.1 && x.2.2 == y.2.2)) w := by
      simp only [Op.equal, Op.maxDepth, t3]
      obtain ⟨i, hi, -⟩ := Option.map_eq_some_iff.1 info3
      rw [Go.run_equalIn_array w 9999 _ _ Tryz.underlying292 hi]
      have hc : Tryz.prog.cellsOf 3 = 1 := by kernel_rfl
      rw [hc]
      simp [go_sem, Op.eqItems]
      by_cases h1 : x.1 = y.1 <;> by_cases h2 : x.2.1 = y.2.1 <;> by_cases h3 : x.2.2 = y.2.2 <;> simp [h1, h2, h3]
    rw [h]
    refine congrArg (fun r => Result.ok r w) ?_
    obtain ⟨a, b, c⟩ := x
    obtain ⟨d, e, f⟩ := y
    rw [Bool.eq_iff_iff]; simp
  · intro x
    have h : ∀ n, Instr.sameBits (n + 1 + 1) (t3 x) (t3 x) = true := fun n => by simp [t3, Instr.sameBits]
    have h' := h 9998
    simp only [Nat.reduceAdd] at h'
    exact h'
def t2 (x : Int × Int) : Value := .agg #[.int .i64 x.1, .int .i64 x.2]
theorem key_t2 : KeyTy Tryz.prog 43 t2 := by
  refine KeyTy.of_equal (by kernel_rfl) ?_ ?_ ?_
  · intro em x w
    kernel_rfl
  · intro x y w
    have h : (Op.equal 43 (t2 x) (t2 y)).run Tryz.prog w = .ok (x.1 == y.1 && x.2 == y.2) w := by
      simp only [Op.equal, Op.maxDepth, t2]
      obtain ⟨i, hi, -⟩ := Option.map_eq_some_iff.1 info3
      rw [Go.run_equalIn_array w 9999 _ _ Tryz.underlying43 hi]
      have hc : Tryz.prog.cellsOf 3 = 1 := by kernel_rfl
      rw [hc]
      simp [go_sem, Op.eqItems]
      by_cases h1 : x.1 = y.1 <;> by_cases h2 : x.2 = y.2 <;> simp [h1, h2]
    rw [h]
    refine congrArg (fun r => Result.ok r w) ?_
    obtain ⟨a, b⟩ := x
    obtain ⟨d, e⟩ := y
    rw [Bool.eq_iff_iff]; simp
  · intro x
    have h : ∀ n, Instr.sameBits (n + 1 + 1) (t2 x) (t2 x) = true := fun n => by simp [t2, Instr.sameBits]
    have h' := h 9998
    simp only [Nat.reduceAdd] at h'
    exact h'
theorem key_int : KeyTy Tryz.prog 3 (Value.int .i64) := by
  refine KeyTy.of_now Tryz.underlying3 (fun x => ?_) (fun x y h => by cases h; rfl) (fun x => by simp [Instr.sameBits])
  simp [Go.MapKept.IsKey]
theorem key_string : KeyTy Tryz.prog 9 Value.string := by
  refine KeyTy.of_now Tryz.underlying9 (fun x => ?_) (fun x y h => by cases h; rfl) (fun x => ?_)
  simp [Go.MapKept.IsKey]
  show Instr.sameBits 10000 (.string x) (.string x) = true
  simp only [Instr.sameBits]
  exact (Go.MapKept.bytes_beq x x).2 rfl

/-- v is a row of branches that the call owns, in a block from base on. -/
def OwnBr (base : Nat) (w : World) (v : Value) (L : List Br) : Prop := w.ownsRow base 161 3 v L.length (brCells L)

theorem OwnBr.nil (base : Nat) (w : World) : OwnBr base w (.slice none 0 0) [] := World.ownsRow_nil _ _ _ _
theorem OwnBr.form {base : Nat} {w : World} {v : Value} {L : List Br} (h : OwnBr base w v L) : ∃ a cap, v = .slice a L.length cap := by
  rcases h.2 with ⟨h1, h2⟩ | ⟨g, cap, _, hv, _⟩
  · exact ⟨none, 0, by rw [h1, h2]⟩
  · exact ⟨_, cap, hv⟩
theorem OwnBr.rd {base : Nat} {w : World} {a : Option Addr} {cap : Nat} {L : List Br} (h : OwnBr base w (.slice a L.length cap) L) : Rd w a (brCells L) := by
  intro j u hj
  rcases h.2 with ⟨h1, h2⟩ | ⟨g, cap', cur, hv, hg, hb, _, _, _, ht⟩
  · rw [List.length_eq_zero_iff] at h2
    subst h2
    simp [brCells] at hj
  · have hc := World.ownsRow.cells (g := g) h (by rw [hv]; rfl) j u hj
    cases hv
    have hadd : (⟨g, 0, none⟩ : Addr).add j = ⟨g, j, none⟩ := by unfold Addr.add; split <;> simp_all
    rw [hadd] at hc
    exact ⟨g, 0, rfl, (Array.getElem?_eq_some_iff.1 hb).1, by rw [Nat.zero_add]; exact hc⟩
theorem OwnBr.block {base : Nat} {w w' : World} {v : Value} {L : List Br} (h : OwnBr base w v L) (hb : ∀ g, v.ownBlock = some g → g < w.heap.size → w'.heap[g]? = w.heap[g]?) : OwnBr base w' v L := by
  obtain ⟨h1, h2⟩ := h
  refine ⟨h1, ?_⟩
  rcases h2 with h2 | ⟨g, cap, cur, hv, hg, hh, r⟩
  · exact Or.inl h2
  · exact Or.inr ⟨g, cap, cur, hv, hg, by rw [hb g (by rw [hv]; rfl) (Array.getElem?_eq_some_iff.1 hh).1]; exact hh, r⟩
theorem OwnBr.mod {S : Nat → Prop} {base : Nat} {w w' : World} {v : Value} {L : List Br} (h : OwnBr base w v L) (hm : Mod S w w') (hs : ∀ g, v.ownBlock = some g → ¬ S g) : OwnBr base w' v L :=
  h.block fun g hg hlt => hm.block g hlt (hs g hg)
theorem OwnBr.alloc {base : Nat} {w : World} {v : Value} {L : List Br} (h : OwnBr base w v L) (o : Obj) : OwnBr base (w.alloc o) v L :=
  h.mod (Mod.of_below (S := fun _ => False) ((Below.refl _ _).alloc (Nat.le_refl _) o)) (fun _ _ h => h)
theorem OwnBr.drew {base : Nat} {w : World} {v : Value} {L : List Br} (h : OwnBr base w v L) : OwnBr base w.drew v L := h
theorem OwnBr.drewN {base : Nat} {w : World} {v : Value} {L : List Br} (h : OwnBr base w v L) (n : Nat) : OwnBr base (w.drewN n) v L := h
theorem OwnBr.setCell {base : Nat} {w : World} {v : Value} {L : List Br} (h : OwnBr base w v L) {p : Addr} (hp : ∀ g, v.ownBlock = some g → g ≠ p.block) (u : Value) : OwnBr base (w.setCell p u) v L := h.mod (Mod.write w p u) hp
theorem OwnBr.lt {base : Nat} {w : World} {v : Value} {L : List Br} (h : OwnBr base w v L) {g : Nat} (hg : v.ownBlock = some g) : base ≤ g ∧ g < w.heap.size := World.ownsRow.lt h g hg
theorem OwnBr.ne_blk {base : Nat} {w : World} {v : Value} {L : List Br} (h : OwnBr base w v L) {g k : Nat} (hg : v.ownBlock = some g) {c : Array Value} {e : TypeId} (h' : Blk w k c e) (he : e ≠ 161) : g ≠ k := by
  rintro rfl
  rcases h.2 with ⟨h1, _⟩ | ⟨g', cap, cur, hv, _, hh, _⟩
  · rw [h1] at hg; cases hg
  · rw [hv] at hg
    cases hg
    unfold Blk at h'
    rw [hh] at h'
    simp at h'
    exact he h'.2.symm
theorem OwnBr.ne_map {K V : Type} [DecidableEq K] {kv : K → Value} {vv : V → Value} {m : List (K × V)} {base : Nat} {w : World} {v : Value} {L : List Br} (h : OwnBr base w v L) {g k : Nat} (hg : v.ownBlock = some g) (h' : MapAt kv vv w k m) : g ≠ k := by
  rintro rfl
  rcases h.2 with ⟨h1, _⟩ | ⟨g', cap, cur, hv, _, hh, _⟩
  · rw [h1] at hg; cases hg
  · rw [hv] at hg
    cases hg
    obtain ⟨_, es, c, hb, _⟩ := h'
    rw [hb] at hh
    cases hh

section
variable {w : World}
/-- 'append(nodes, x)' in a region that draws its order. -/
theorem step_append_br {ops : Array Oper} {o : Oper} {a : Act} {K : Act → World → Prop} {Q : Exit → Act → World → Prop} {E : Prop} (hgd : o.guard = none) (s x : Operand)
    (ho : o.op = .call { callee := .builtin .append, args := #[s, x], argTypes := #[40, 40] })
    (base : Nat) (v : Value) (L : List Br) (b : Br) (hs : a.eval s = v) (hown : OwnBr base w v L)
    (B : Nat) (hx : a.eval x = .slice (some ⟨B, 0, none⟩) 1 1) (hnews : Blk w B #[.int .i64 b.var, .int .i64 b.low, .int .i64 b.high] 161)
    (hL : L.length ≤ 1099511627776) (hbase : base ≤ w.heap.size) (H : Nat) (hH : w.heap.size = H)
    (h : ∀ g cap w', OwnBr base w' (.slice (some ⟨g, 0, none⟩) (L.length + 1) cap) (L ++ [b]) → w.grownBy w' v.ownBlock → (v.ownBlock = some g ∨ g = H) → g < w'.heap.size → K (a.put o.dst (.slice (some ⟨g, 0, none⟩) (L.length + 1) cap)) w') :
    if Region.wanted o (yielded ops a.tmps) = true then Oper.wp Tryz.prog o a w K Q else E := by
  obtain ⟨i, hi, hz0, hz1, hz2⟩ := info_parts info161
  refine step_append_lies w hgd s x 40 ho base 161 i _ 3 24 Tryz.underlying40 hi hz0 hz1 hz2 rfl (by omega) v L.length (brCells L) hs hown ⟨B, 0, none⟩ 1 1 b.cells hx rfl (World.news_of_block hnews) (by simp [Br.cells, Value.oneCell']) (by omega) (by unfold maxLen; omega) (by omega) hbase H hH ?_
  intro g cap w' h1
  refine h g cap w' ?_
  unfold OwnBr
  have e1 : brCells L ++ b.cells = brCells (L ++ [b]) := by simp [brCells]
  rw [e1] at h1
  simpa using h1

theorem wpList_append_br {ops : Array Oper} {rest : List Oper} {o : Oper} {a : Act} {Q : Exit → Act → World → Prop} (hgd : o.guard = none) (s x : Operand)
    (ho : o.op = .call { callee := .builtin .append, args := #[s, x], argTypes := #[40, 40] })
    (base : Nat) (v : Value) (L : List Br) (b : Br) (hs : a.eval s = v) (hown : OwnBr base w v L)
    (B : Nat) (hx : a.eval x = .slice (some ⟨B, 0, none⟩) 1 1) (hnews : Blk w B #[.int .i64 b.var, .int .i64 b.low, .int .i64 b.high] 161)
    (hL : L.length ≤ 1099511627776) (hbase : base ≤ w.heap.size) (H : Nat) (hH : w.heap.size = H)
    (h : ∀ g cap w', OwnBr base w' (.slice (some ⟨g, 0, none⟩) (L.length + 1) cap) (L ++ [b]) → w.grownBy w' v.ownBlock → (v.ownBlock = some g ∨ g = H) → g < w'.heap.size → wpList Tryz.prog ops Q rest (a.put o.dst (.slice (some ⟨g, 0, none⟩) (L.length + 1) cap)) w') :
    wpList Tryz.prog ops Q (o :: rest) a w := by
  obtain ⟨i, hi, hz0, hz1, hz2⟩ := info_parts info161
  refine wpList_append_lies w hgd s x 40 ho base 161 i _ 3 24 Tryz.underlying40 hi hz0 hz1 hz2 rfl (by omega) v L.length (brCells L) hs hown ⟨B, 0, none⟩ 1 1 b.cells hx rfl (World.news_of_block hnews) (by simp [Br.cells, Value.oneCell']) (by omega) (by unfold maxLen; omega) (by omega) hbase H hH ?_
  intro g cap w' h1
  refine h g cap w' ?_
  unfold OwnBr
  have e1 : brCells L ++ b.cells = brCells (L ++ [b]) := by simp [brCells]
  rw [e1] at h1
  simpa using h1
end
end Go.Proofs.YtpekmohnjpbkgaaGreatDoor

namespace Go.Proofs.YtpekmohnjpbkgaaGreatDoor
open Go Go.RowKit
set_option maxHeartbeats 400000
set_option maxRecDepth 100000
attribute [local go_sem ↓] Go.wp_at_zero Go.wp_at_succ

/-- The builder's map, as its list says. -/
def kn (L : List Br) : List (Br × Int) := L.zipIdx.map fun p => (p.1, (p.2 : Int) + 2)

structure Bld (base : Nat) (w : World) (bb bk : Nat) (nv : Value) (L : List Br) : Prop where
  blk : Blk w bb #[nv, .map (some bk)] 222
  own : OwnBr base w nv L
  map : MapAt Br.val (Value.int .i64) w bk (kn L)
  hb : base ≤ bb
  hk : base ≤ bk

/-- The blocks that a builder may write. -/
def BldS (bb bk : Nat) (nv : Value) (k : Nat) : Prop := k = bb ∨ k = bk ∨ nv.ownBlock = some k

/-- What the builder is after a branch was added. -/
def BldPost (base : Nat) (w : World) (bb bk : Nat) (nv : Value) (L' : List Br) (r : Int) (e : Ending) (w' : World) : Prop :=
  ∃ nv', e = .returned (.int .i64 r) ∧ Bld base w' bb bk nv' L' ∧ Mod (BldS bb bk nv) w w' ∧ (∀ g, nv'.ownBlock = some g → nv.ownBlock = some g ∨ w.heap.size ≤ g)

theorem kn_snoc (L : List Br) (x : Br) : kn (L ++ [x]) = kn L ++ [(x, (L.length : Int) + 2)] := by simp [kn, List.zipIdx_append]
/-- A branch made unique. -/
def uniq (L : List Br) (x : Br) : List Br × Int :=
  if x.low = x.high then (L, x.low) else match aget (kn L) x with
    | some n => (L, n)
    | none => (L ++ [x], (L.length : Int) + 2)
theorem aset_new {K V : Type} [DecidableEq K] (m : List (K × V)) (k : K) (v : V) (h : aget m k = none) : aset m k v = m ++ [(k, v)] := by
  induction m with
  | nil => rfl
  | cons p m ih =>
    obtain ⟨q, y⟩ := p
    simp only [aget] at h
    split at h
    · cases h
    · rename_i hne
      simp only [aset, if_neg hne, ih h, List.cons_append]

/-- Behind the append. -/
def BCut (base : Nat) (w : World) (bb bk : Nat) (nv : Value) (L : List Br) (xv xl xh : Int) (W : World) : Prop :=
  ∃ g cap, Blk W bb #[.slice (some ⟨g, 0, none⟩) (L.length + 1) cap, .map (some bk)] 222 ∧ OwnBr base W (.slice (some ⟨g, 0, none⟩) (L.length + 1) cap) (L ++ [⟨xv, xl, xh⟩]) ∧
    MapAt Br.val (Value.int .i64) W bk (kn L) ∧ Blk W w.heap.size #[.int .i64 xv, .int .i64 xl, .int .i64 xh] 161 ∧ Mod (BldS bb bk nv) w W ∧ (nv.ownBlock = some g ∨ w.heap.size ≤ g)

theorem bbranch_new (base : Nat) (w : World) (bb bk : Nat) (nv : Value) (L : List Br) (x : Br) (h : Bld base w bb bk nv L) (hx : (x.low == x.high) = false) (hn : aget (kn L) x = none) (hL : L.length ≤ 1099511627776) :
    Calls Tryz.prog 224 #[.pointer (some ⟨bb, 0, none⟩), .int .i64 x.var, .int .i64 x.low, .int .i64 x.high] w (BldPost base w bb bk nv (L ++ [x]) ((L.length : Int) + 2)) := by
  obtain ⟨xv, xl, xh⟩ := x
  have hlk := fun nq => ((h.map.alloc (.cells #[.int .i64 xv, .int .i64 xl, .int .i64 xh] 161)).drewN nq).lookup_ok (P := Tryz.prog) Tryz.underlying220 key_br (.int .i64 0) zero3 ⟨xv, xl, xh⟩
  rw [hn] at hlk
  simp only [Option.map_none, Option.getD_none, Option.isSome_none, Br.val] at hlk
  have c0 := h.blk.cell 0
  have c1 := h.blk.cell 1
  have f0 := h.blk.frozen 0
  have f1 := h.blk.frozen 1
  have hlt := h.blk.lt
  simp only at hx
  simp at c0 c1
  go_enter Tryz.func224, Tryz.ntmps224
  go_wp2
  go_quiet (fail)
  go_wp2_with fail
  have hb := h.hb
  have hk := h.hk
  have hbs := h.blk.lt
  have hks := h.map.lt
  have g1 := (h.blk.alloc (.cells #[.int .i64 xv, .int .i64 xl, .int .i64 xh] 161)).drewN nq
  have g2 := (h.own.alloc (.cells #[.int .i64 xv, .int .i64 xl, .int .i64 xh] 161)).drewN nq
  have g3 := (h.map.alloc (.cells #[.int .i64 xv, .int .i64 xl, .int .i64 xh] 161)).drewN nq
  have g4 := (Blk.new w #[.int .i64 xv, .int .i64 xl, .int .i64 xh] 161).drewN nq
  have g5 : Mod (BldS bb bk nv) w ((w.alloc (.cells #[.int .i64 xv, .int .i64 xl, .int .i64 xh] 161)).drewN nq) := ((Mod.refl _ _).alloc _).drewN nq
  have gs : ((w.alloc (.cells #[.int .i64 xv, .int .i64 xl, .int .i64 xh] 161)).drewN nq).heap.size = w.heap.size + 1 := by simp
  clear hlk c0 c1 f0 f1
  generalize (w.alloc (.cells #[.int .i64 xv, .int .i64 xl, .int .i64 xh] 161)).drewN nq = W at *
  have c0 := g1.cell 0
  have c1 := g1.cell 1
  have f0 := g1.frozen 0
  have d0 := g4.cell 0
  have d1 := g4.cell 1
  have d2 := g4.cell 2
  simp at c0 c1 d0 d1 d2
  have hWs : bb < W.heap.size := by omega
  have hWb : base ≤ W.heap.size := by omega
  have hWx : w.heap.size < W.heap.size := by omega
  have HG := Lib.hid gs
  clear gs
  go_cut [] (fun wx => BCut base w bb bk nv L xv xl xh wx)
  case first =>
    go_region_law ((refine step_append_br (by rfl) _ _ (by rfl) base nv L ⟨xv, xl, xh⟩ (by rfl) ((g2.drewN 1).alloc _) W.heap.size (by rfl) (Blk.new _ _ _) hL (by simp; omega) (W.heap.size + 1) (by simp) ?_; intro g cap w1 hown1 hgrow hat hlt1; have k1 := ((g1.drewN 1).alloc _).mod (Mod.of_grown hgrow) (fun e => (g2.ne_blk e.symm g1 (by decide)) rfl); have k0 := k1.cell 0; have k2 := k1.frozen 0; simp at k0))
    all_goals
      go_wp2_with fail
      go_meet
      have HG' := HG.out
      have k3 := ((g3.drewN 1).alloc _).mod (Mod.of_grown hgrow) (fun e => (g2.ne_map e.symm g3) rfl)
      have k4 := ((g4.drewN 1).alloc _).mod (Mod.of_grown hgrow) (fun e => by have := g2.lt e.symm; have := h.own.lt e.symm; omega)
      have hne : g ≠ bb := hown1.ne_blk rfl k1 (by decide)
      refine ⟨g, cap, k1.setCell 0 _, hown1.setCell (fun g' e => by cases e; exact hne) _, k3.setCell (k3.ne_blk k1) _, k4.setCell_other (by simp; omega) _, ?_, ?_⟩
      · exact ((g5.trans ((((Mod.refl _ _).drewN 1).alloc _))).grown hgrow (fun k e _ => .inr (.inr e))).setCell (.inl (.inl rfl)) _
      · rcases hat with e | e
        · exact .inl e
        · exact .inr (by omega)
  case rest =>
    obtain ⟨g, cap, b1, b2, b3, b4, b5, b6⟩ := hcut
    have hb := h.hb
    have hbs := h.blk.lt
    have c0 := b1.cell 0
    have c1 := b1.cell 1
    have d0 := b4.cell 0
    have d1 := b4.cell 1
    have d2 := b4.cell 2
    simp at c0 c1 d0 d1 d2
    have l1 : (L.length : Int) ≤ 1099511627776 := by omega
    go_wp2_with fail
    go_still_tail 6, (by kernel_rfl)
    refine wpList_mapUpdate_at (by rfl) 220 _ _ _ (by rfl) 161 3 Tryz.underlying220 key_br bk (kn L) (by rfl) b3 ⟨xv, xl, xh⟩ (by rfl) ((L.length : Int) + 2) (by rfl) ?_
    intro w2 m2 m3' m4
    have m3 : Mod (fun k => k = bk) wc w2 := ⟨m3'.os, m3'.tape, m3'.output, m3'.size, m3'.block⟩
    clear m3'
    have hd := b1.lt
    have HM := Lib.hid m4
    clear m4
    go_wp2_with fail
    go_ret
    have q1 := b2.mod (S := fun k => k = bk) m3 (fun g' e => by cases e; exact b2.ne_map rfl b3)
    have q2 := b1.mod m3 (fun e => b3.ne_blk b1 e.symm)
    refine ⟨_, rfl, ⟨q2, by simpa using q1, ?_, h.hb, h.hk⟩, b5.trans (Mod.mono (S := fun k => k = bk) m3 (fun k _ e => .inr (.inl e))), ?_⟩
    · rw [kn_snoc, ← aset_new _ _ _ hn]; exact m2
    · intro g' e
      cases e
      exact b6

theorem bbranch_same (base : Nat) (w : World) (bb bk : Nat) (nv : Value) (L : List Br) (x : Br) (h : Bld base w bb bk nv L) (hx : (x.low == x.high) = true) :
    Calls Tryz.prog 224 #[.pointer (some ⟨bb, 0, none⟩), .int .i64 x.var, .int .i64 x.low, .int .i64 x.high] w (BldPost base w bb bk nv L x.low) := by
  obtain ⟨xv, xl, xh⟩ := x
  simp only at hx ⊢
  go_enter Tryz.func224, Tryz.ntmps224
  go_wp2
  go_ret
  exact ⟨nv, rfl, h, Mod.refl _ _, fun g e => .inl e⟩

theorem bbranch_old (base : Nat) (w : World) (bb bk : Nat) (nv : Value) (L : List Br) (x : Br) (n : Int) (h : Bld base w bb bk nv L) (hx : (x.low == x.high) = false) (hn : aget (kn L) x = some n) :
    Calls Tryz.prog 224 #[.pointer (some ⟨bb, 0, none⟩), .int .i64 x.var, .int .i64 x.low, .int .i64 x.high] w (BldPost base w bb bk nv L n) := by
  obtain ⟨xv, xl, xh⟩ := x
  have hlk := fun nq => ((h.map.alloc (.cells #[.int .i64 xv, .int .i64 xl, .int .i64 xh] 161)).drewN nq).lookup_ok (P := Tryz.prog) Tryz.underlying220 key_br (.int .i64 0) zero3 ⟨xv, xl, xh⟩
  rw [hn] at hlk
  simp only [Option.map_some, Option.getD_some, Option.isSome_some, Br.val] at hlk
  have HN := Lib.hid hn
  clear hn
  have c0 := h.blk.cell 0
  have c1 := h.blk.cell 1
  have hlt := h.blk.lt
  simp only at hx
  simp at c0 c1
  go_enter Tryz.func224, Tryz.ntmps224
  go_wp2
  go_quiet (fail)
  go_wp2
  go_ret
  have o : Obj := .cells #[.int .i64 xv, .int .i64 xl, .int .i64 xh] 161
  exact ⟨nv, rfl, ⟨(h.blk.alloc _).drewN nq, (h.own.alloc _).drewN nq, (h.map.alloc _).drewN nq, h.hb, h.hk⟩, ((Mod.refl _ _).alloc _).drewN nq, fun g e => .inl e⟩

theorem bbranch_any (base : Nat) (w : World) (bb bk : Nat) (nv : Value) (L : List Br) (x : Br) (h : Bld base w bb bk nv L) (hL : L.length ≤ 1099511627776) :
    Calls Tryz.prog 224 #[.pointer (some ⟨bb, 0, none⟩), .int .i64 x.var, .int .i64 x.low, .int .i64 x.high] w (BldPost base w bb bk nv (uniq L x).1 (uniq L x).2) := by
  unfold uniq
  by_cases hx : x.low = x.high
  · rw [if_pos hx]
    exact bbranch_same base w bb bk nv L x h (by simpa using hx)
  · rw [if_neg hx]
    cases hn : aget (kn L) x with
    | some n => exact bbranch_old base w bb bk nv L x n h (by simpa using hx) hn
    | none => exact bbranch_new base w bb bk nv L x h (by simpa using hx) hn hL
end Go.Proofs.YtpekmohnjpbkgaaGreatDoor

namespace Go.Proofs.YtpekmohnjpbkgaaGreatDoor
open Go Go.RowKit
set_option maxHeartbeats 400000
set_option maxRecDepth 100000
attribute [local go_sem ↓] Go.wp_at_zero Go.wp_at_succ

/-- What the closure 'visit' finds in memory: its variables in blocks km, kb, kv, ko, the map bm, the row nv. -/
structure VisW (base : Nat) (N : List Br) (aN : Option Addr) (capN : Nat) (km bm kb bb kv ko : Nat) (root : Int) (w : World) (nv : Value) (s : VS) : Prop where
  num : Blk w km #[.map (some bm)] 274
  map : ∃ m : List (Int × Int), MapAt (Value.int .i64) (Value.int .i64) w bm m ∧ ∀ n, s.memo n = aget m n
  bvar : Blk w kb #[.pointer (some ⟨bb, 0, none⟩)] 219
  bl : w.cell? ⟨bb, 0, none⟩ = some (.slice aN N.length capN)
  rd : Rd w aN (brCells N)
  vis : Blk w kv #[.func (.func 206) #[] #[.pointer (some ⟨km, 0, none⟩), .pointer (some ⟨kb, 0, none⟩), .pointer (some ⟨kv, 0, none⟩), .pointer (some ⟨ko, 0, none⟩)]] 275
  out : Blk w ko #[nv, .int .i64 root] 42
  own : OwnBr base w nv s.out
  ha : N ≠ [] → ∀ b o, aN = some ⟨b, o, none⟩ → b < base
  hbb : bb < base
  hkm : base ≤ km
  hbm : base ≤ bm
  hko : base ≤ ko

def VisS (bm ko : Nat) (nv : Value) (k : Nat) : Prop := k = bm ∨ k = ko ∨ nv.ownBlock = some k

def VisPost (base : Nat) (N : List Br) (aN : Option Addr) (capN : Nat) (km bm kb bb kv ko : Nat) (root : Int) (w : World) (nv : Value) (r : Int) (s' : VS) (e : Ending) (w' : World) : Prop :=
  ∃ nv', e = .returned (.int .i64 r) ∧ VisW base N aN capN km bm kb bb kv ko root w' nv' s' ∧ Mod (VisS bm ko nv) w w' ∧ (∀ g, nv'.ownBlock = some g → nv.ownBlock = some g ∨ w.heap.size ≤ g)

section
variable {base : Nat} {N : List Br} {aN : Option Addr} {capN : Nat} {km bm kb bb kv ko : Nat} {root : Int} {w : World} {nv : Value} {s : VS}

theorem VisW.mod {S : Nat → Prop} {w' : World} (h : VisW base N aN capN km bm kb bb kv ko root w nv s) (hm : Mod S w w') (h1 : ∀ k, k < w.heap.size → S k → base ≤ k ∧ k ≠ km ∧ k ≠ bm ∧ k ≠ kb ∧ k ≠ kv ∧ k ≠ ko ∧ nv.ownBlock ≠ some k) : VisW base N aN capN km bm kb bb kv ko root w' nv s := by
  obtain ⟨m, m1, m2⟩ := h.map
  have lm := m1.lt
  refine ⟨h.num.mod hm fun e => (h1 _ h.num.lt e).2.1 rfl, ⟨m, m1.mod hm fun e => (h1 _ lm e).2.2.1 rfl, m2⟩, h.bvar.mod hm fun e => (h1 _ h.bvar.lt e).2.2.2.1 rfl, hm.cell_of h.bl fun e => ?_, h.rd.mod' hm fun hne b o e hlt hs => ?_, h.vis.mod hm fun e => (h1 _ h.vis.lt e).2.2.2.2.1 rfl, h.out.mod hm fun e => (h1 _ h.out.lt e).2.2.2.2.2.1 rfl, h.own.mod hm fun g e hs => ?_, h.ha, h.hbb, h.hkm, h.hbm, h.hko⟩
  · have := (h1 _ (lt_of_cell h.bl) e).1
    have := h.hbb
    omega
  · have := (h1 _ hlt hs).1
    have := h.ha hne b o e
    omega
  · exact (h1 _ (h.own.lt e).2 hs).2.2.2.2.2.2 e
theorem VisW.alloc (h : VisW base N aN capN km bm kb bb kv ko root w nv s) (o : Obj) : VisW base N aN capN km bm kb bb kv ko root (w.alloc o) nv s :=
  h.mod (Mod.of_below (S := fun _ => False) ((Below.refl _ _).alloc (Nat.le_refl _) o)) (fun _ _ h => h.elim)
end

theorem visit_hit (base : Nat) (N : List Br) (aN : Option Addr) (capN km bm kb bb kv ko : Nat) (root : Int) (w : World) (nv : Value) (s : VS) (n m : Int) (h : VisW base N aN capN km bm kb bb kv ko root w nv s) (hm : s.memo n = some m) :
    Calls Tryz.prog 206 #[.int .i64 n, .pointer (some ⟨km, 0, none⟩), .pointer (some ⟨kb, 0, none⟩), .pointer (some ⟨kv, 0, none⟩), .pointer (some ⟨ko, 0, none⟩)] w (VisPost base N aN capN km bm kb bb kv ko root w nv m s) := by
  obtain ⟨mm, m1, m2⟩ := h.map
  have hlk := m1.lookup_ok (P := Tryz.prog) Tryz.underlying274 key_int (.int .i64 0) zero3 n
  rw [← m2, hm] at hlk
  simp only [Option.map_some, Option.getD_some, Option.isSome_some] at hlk
  have HM := Lib.hid hm
  clear hm m2
  have c0 := h.num.cell 0
  simp at c0
  go_enter Tryz.func206, Tryz.ntmps206
  go_wp2
  go_ret
  exact ⟨nv, rfl, h, Mod.refl _ _, fun g e => .inl e⟩

theorem visit_walk (base : Nat) (N : List Br) (hN : Ord N) (hl : N.length ≤ 1099511627700) (aN : Option Addr) (capN km bm kb bb kv ko : Nat) (root : Int) : ∀ (f : Nat) (n : Int) (s : VS) (nv : Value) (w : World),
    VisW base N aN capN km bm kb bb kv ko root w nv s → VInv N s → 0 ≤ n → n < N.length + 2 → n < f →
    Calls Tryz.prog 206 #[.int .i64 n, .pointer (some ⟨km, 0, none⟩), .pointer (some ⟨kb, 0, none⟩), .pointer (some ⟨kv, 0, none⟩), .pointer (some ⟨ko, 0, none⟩)] w (VisPost base N aN capN km bm kb bb kv ko root w nv (visit N f n s).1 (visit N f n s).2) := by
  intro f
  induction f with
  | zero => intro n s nv w _ _ h0 _ hf; omega
  | succ f ih =>
    intro n s nv w h hv h0 h1 hf
    unfold visit
    cases hm : s.memo n with
    | some m => exact visit_hit base N aN capN km bm kb bb kv ko root w nv s n m h hm
    | none =>
      rcases num_cases h0 h1 with rfl | rfl | ⟨i, b, hb, rfl⟩
      · rw [hv.zero] at hm; cases hm
      · rw [hv.one] at hm; cases hm
      simp only [nodeAt_of hb]
      have ok := hN _ _ hb
      have a1 := ok.l1
      have a2 := ok.h1
      have hi : i < N.length := (List.getElem?_eq_some_iff.1 hb).1
      have pl := visit_ok hN f b.low s hv ok.l0 (by omega) (by omega)
      have cl := fun w' nv' hw => ih b.low s nv' w' hw hv ok.l0 (by omega) (by omega)
      generalize visit N f b.low s = l at *
      have ph := visit_ok hN f b.high l.2 pl.inv ok.h0 (by omega) (by omega)
      have ch := fun w' nv' hw => ih b.high l.2 nv' w' hw pl.inv ok.h0 (by omega) (by omega)
      generalize visit N f b.high l.2 = hh at *
      have hol := ph.inv.out_le
      obtain ⟨mm, m1, m2⟩ := h.map
      have hlk := m1.lookup_ok (P := Tryz.prog) Tryz.underlying274 key_int (.int .i64 0) zero3 ((i : Int) + 2)
      rw [← m2, hm] at hlk
      simp only [Option.map_none, Option.getD_none, Option.isSome_none] at hlk
      obtain ⟨ba, oa, ha, hba, x0, x1, x2⟩ := h.rd.br hb
      have c0 := h.num.cell 0
      have c1 := h.bvar.cell 0
      have c2 := h.bl
      have c3 := h.vis.cell 0
      have hk3 := h.vis.lt
      simp at c0 c1 c3
      have hin : (i : Int) < (N.length : Int) := by omega
      have m1' := m1.alloc (.cells #[.int .i64 b.var, .int .i64 b.low, .int .i64 b.high] 161)
      clear hN hv h0 h1 hf hm pl ph m1 m2 ih a1 a2
      rw [ha] at c2
      go_enter Tryz.func206, Tryz.ntmps206
      go_wp2_with fail
      refine (cl _ nv (h.alloc _)).mono ?_
      rintro e w2 ⟨nv1, rfl, q1, q2, q3⟩
      have gx : Blk w2 w.heap.size #[.int .i64 b.var, .int .i64 b.low, .int .i64 b.high] 161 := by
        refine (Blk.new w _ 161).mod q2 ?_
        rintro (e | e | e)
        · exact (m1'.ne_blk (Blk.new w #[.int .i64 b.var, .int .i64 b.low, .int .i64 b.high] 161)) e.symm
        · exact ((h.out.alloc _).ne (Blk.new w #[.int .i64 b.var, .int .i64 b.low, .int .i64 b.high] 161) (by decide)) e.symm
        · have := (h.own.lt e).2
          omega
      have hs2 := gx.lt
      clear c0 c1 c2 c3 hk3 x0 x1 x2 hlk cl
      have x1 := gx.cell 1
      have x2 := gx.cell 2
      have c3 := q1.vis.cell 0
      simp at x1 x2 c3
      go_wp2_with fail
      refine (ch _ nv1 q1).mono ?_
      rintro e w3 ⟨nv2, rfl, r1, r2, r3⟩
      have hq : ∀ g, nv1.ownBlock = some g → g ≠ w.heap.size := by
        intro g e
        rcases q3 g e with e' | e'
        · have := (h.own.lt e').2
          omega
        · simp at e'
          omega
      have hr : ∀ g, nv2.ownBlock = some g → g ≠ w.heap.size := by
        intro g e
        rcases r3 g e with e' | e'
        · exact hq g e'
        · omega
      obtain ⟨mq, mq1, -⟩ := q1.map
      have gx3 : Blk w3 w.heap.size #[.int .i64 b.var, .int .i64 b.low, .int .i64 b.high] 161 := by
        refine gx.mod r2 ?_
        rintro (e | e | e)
        · exact (mq1.ne_blk gx) e.symm
        · exact (q1.out.ne gx (by decide)) e.symm
        · exact hq _ e rfl
      clear x1 x2 c3 ch mq1 mq
      have x0 := gx3.cell 0
      have o0 := r1.out.cell 0
      have o1 := r1.out.cell 1
      have f0 := r1.out.frozen 0
      have n0 := r1.num.cell 0
      have hs3 := gx3.lt
      have hsk := r1.out.lt
      have hsn := r1.num.lt
      have hsv := r1.vis.lt
      have hb3 : base ≤ w3.heap.size := by have := r1.hko; omega
      have hlen : hh.2.out.length ≤ 1099511627776 := by omega
      simp at x0 o0 o1 n0
      go_wp2_with (at_builtin; refine wpList_append_br (by rfl) _ _ (by rfl) base nv2 hh.2.out ⟨b.var, l.1, hh.1⟩ (by rfl) (r1.own.alloc _) w3.heap.size (by rfl) (Blk.new _ _ _) hlen (by simp; omega) (w3.heap.size + 1) (by simp) ?_)
      intro g cap w4 hown hgrow hat hlt
      obtain ⟨mr, mr1, mr2⟩ := r1.map
      have t1 := (r1.out.alloc (.cells #[.int .i64 b.var, .int .i64 l.1, .int .i64 hh.1] 161)).mod (Mod.of_grown hgrow) (fun e => r1.own.ne_blk e.symm r1.out (by decide) rfl)
      have t2 := (r1.num.alloc (.cells #[.int .i64 b.var, .int .i64 l.1, .int .i64 hh.1] 161)).mod (Mod.of_grown hgrow) (fun e => r1.own.ne_blk e.symm r1.num (by decide) rfl)
      have t3 := (mr1.alloc (.cells #[.int .i64 b.var, .int .i64 l.1, .int .i64 hh.1] 161)).mod (Mod.of_grown hgrow) (fun e => r1.own.ne_map e.symm mr1 rfl)
      clear o0 o1 f0 n0
      have o0 := t1.cell 0
      have o1 := t1.cell 1
      have f0 := t1.frozen 0
      have n0 := t2.cell 0
      simp at o0 o1 n0
      have hne : ko ≠ km := t1.ne t2 (by decide)
      have hne' : km ≠ ko := fun e => hne e.symm
      have hlenI : ((hh.2.out.length : Nat) : Int) ≤ 1099511627776 := by omega
      go_wp2_with (at_mapUpdate; refine wpList_mapUpdate_at (by rfl) 274 _ _ _ (by rfl) 3 3 Tryz.underlying274 key_int bm mr (by rfl) (t3.setCell (t3.ne_blk t1) _) ((i : Int) + 2) (by rfl) _ (by rfl) ?_)
      intro w5 m2 m3 m4
      have m35 : Mod (VisS bm ko nv2) w3 w5 :=
        ((((Mod.refl _ _).alloc _).grown hgrow (fun k e _ => .inr (.inr e))).setCell (.inl (.inr (.inl rfl))) _).trans (Mod.mono (S := fun k => k = bm) m3 (fun k _ e => .inl e))
      have hbk : bm ≠ ko := t3.ne_blk t1
      have hbkm : bm ≠ km := t3.ne_blk t2
      have hgk : g ≠ ko := hown.ne_blk rfl t1 (by decide)
      have hgm : g ≠ bm := hown.ne_map rfl t3
      have p2 := (t2.setCell_other (p := ⟨ko, 0, none⟩) hne (.slice (some ⟨g, 0, none⟩) (hh.2.out.length + 1) cap)).mod m3 (fun e => hbkm e.symm)
      have hl5 := m2.lookup (P := Tryz.prog) Tryz.underlying274 key_int (.int .i64 0) zero3 ((i : Int) + 2)
      rw [aget_aset, if_pos rfl] at hl5
      simp only [Option.map_some, Option.getD_some] at hl5
      have n5 := p2.cell 0
      simp at n5
      have HM4 := Lib.hid m4
      clear m4
      go_wp2_with fail
      go_ret
      have e1 : ((hh.2.out ++ [(⟨b.var, l.1, hh.1⟩ : Br)]).length : Int) + 1 = (hh.2.out.length : Int) + 1 + 1 := by simp
      refine ⟨.slice (some ⟨g, 0, none⟩) (hh.2.out.length + 1) cap, (by show Ending.returned (.int .i64 ((hh.2.out.length : Int) + 1 + 1)) = _; rw [e1]), ⟨p2, ⟨_, m2, fun n => ?_⟩, ?_, ?_, ?_, ?_, ?_, ?_, h.ha, h.hbb, h.hkm, h.hbm, h.hko⟩, ?_, ?_⟩
      · rw [aget_aset, ← mr2, ← e1]; rfl
      · exact r1.bvar.mod m35 (by rintro (e | e | e); exact (mr1.ne_blk r1.bvar) e.symm; exact (r1.out.ne r1.bvar (by decide)) e.symm; exact (r1.own.ne_blk e r1.bvar (by decide)) rfl)
      · refine m35.cell_of r1.bl ?_
        have := h.hbb
        rintro (e | e | e)
        · have := h.hbm; omega
        · have := h.hko; omega
        · have := (r1.own.lt e).1; omega
      · refine r1.rd.mod' m35 ?_
        intro hne b' o' e' _
        have := h.ha hne b' o' e'
        rintro (e | e | e)
        · have := h.hbm; omega
        · have := h.hko; omega
        · have := (r1.own.lt e).1; omega
      · exact r1.vis.mod m35 (by rintro (e | e | e); exact (mr1.ne_blk r1.vis) e.symm; exact (r1.out.ne r1.vis (by decide)) e.symm; exact (r1.own.ne_blk e r1.vis (by decide)) rfl)
      · exact (t1.setCell 0 _).mod m3 (fun e => hbk e.symm)
      · have := (hown.setCell (p := ⟨ko, 0, none⟩) (fun g' e => by cases e; exact hgk) (.slice (some ⟨g, 0, none⟩) (hh.2.out.length + 1) cap)).mod m3 (fun g' e => by cases e; exact hgm)
        simpa using this
      · have s1 : Mod (VisS bm ko nv) w w2 := (Mod.refl _ _).alloc _ |>.trans' q2 (fun _ _ h => h) (fun _ _ h => h)
        refine (s1.trans' r2 (fun _ _ h => h) ?_).trans' m35 (fun _ _ h => h) ?_
        · intro k hk e
          rcases e with e | e | e
          · exact .inl e
          · exact .inr (.inl e)
          · rcases q3 k e with e' | e'
            · exact .inr (.inr e')
            · simp at e'; omega
        · intro k hk e
          rcases e with e | e | e
          · exact .inl e
          · exact .inr (.inl e)
          · rcases r3 k e with e' | e'
            · rcases q3 k e' with e' | e'
              · exact .inr (.inr e')
              · simp at e'; omega
            · have := q2.size; simp at this; omega
      · intro g' e
        cases e
        show nv.ownBlock = some g ∨ w.heap.size ≤ g
        have z1 := q2.size
        have z2 := r2.size
        simp at z1
        rcases hat with e | e
        · rcases r3 g e with e' | e'
          · rcases q3 g e' with e' | e'
            · exact .inl e'
            · simp at e'; exact .inr (by omega)
          · exact .inr (by omega)
        · exact .inr (by omega)
end Go.Proofs.YtpekmohnjpbkgaaGreatDoor

namespace Go.Proofs.YtpekmohnjpbkgaaGreatDoor
open Go Go.RowKit
set_option maxHeartbeats 400000
set_option maxRecDepth 100000
theorem bdiagram_any (N : List Br) (hN : Ord N) (hl : N.length ≤ 1099511627700) (aN : Option Addr) (capN bb : Nat) (n : Int) (w : World) (h0 : 0 ≤ n) (h1 : n < N.length + 2)
    (hbl : w.cell? ⟨bb, 0, none⟩ = some (.slice aN N.length capN)) (hrd : Rd w aN (brCells N)) :
    Calls Tryz.prog 154 #[.pointer (some ⟨bb, 0, none⟩), .int .i64 n] w (DgPost w (numbered N n)) := by
  have hmm := @run_makeMap Tryz.prog
  have hmf : ∀ (fn : Fn) (first cap : Array Value) (w : World), (Instr.makeFunc fn first cap).run Tryz.prog w = .ok (.func fn first cap) w := fun _ _ _ _ => rfl
  have hbs := lt_of_cell hbl
  have ha := hrd.ha
  have gmap := MapAt.new (K := Int) (V := Int) (kv := Value.int .i64) (vv := Value.int .i64) (((w.alloc (Obj.cells #[Value.pointer (some { block := bb, off := 0 })] 219)).alloc (Obj.cells #[Value.slice none 0 0, Value.int IntKind.i64 0] 42)).alloc (Obj.cells #[Value.slice none 0 0, Value.int IntKind.i64 0] 42))
  have e3 : (((w.alloc (Obj.cells #[Value.pointer (some { block := bb, off := 0 })] 219)).alloc (Obj.cells #[Value.slice none 0 0, Value.int IntKind.i64 0] 42)).alloc (Obj.cells #[Value.slice none 0 0, Value.int IntKind.i64 0] 42)).heap.size = w.heap.size + 1 + 1 + 1 := by simp
  rw [e3] at gmap
  clear e3
  obtain ⟨w1, r1, p1, p2, p3⟩ := gmap.update (P := Tryz.prog) Tryz.underlying274 key_int 0 0
  obtain ⟨w2, r2, q1, q2, q3⟩ := p1.update (P := Tryz.prog) Tryz.underlying274 key_int 1 1
  have b0 : Blk (w.alloc (Obj.cells #[Value.pointer (some { block := bb, off := 0 })] 219)) w.heap.size #[Value.pointer (some { block := bb, off := 0 })] 219 := Blk.new _ _ _
  have b1 := Blk.new (w.alloc (Obj.cells #[Value.pointer (some { block := bb, off := 0 })] 219)) #[Value.slice none 0 0, Value.int IntKind.i64 0] 42
  have b2 := Blk.new ((w.alloc (Obj.cells #[Value.pointer (some { block := bb, off := 0 })] 219)).alloc (Obj.cells #[Value.slice none 0 0, Value.int IntKind.i64 0] 42)) #[Value.slice none 0 0, Value.int IntKind.i64 0] 42
  simp only [World.size_alloc] at b1 b2
  replace b0 := ((((b0.alloc (Obj.cells #[Value.slice none 0 0, Value.int IntKind.i64 0] 42)).alloc (Obj.cells #[Value.slice none 0 0, Value.int IntKind.i64 0] 42)).alloc (.map #[] 0)).mod p2 (by omega)).mod q2 (by omega)
  replace b1 := (((b1.alloc (Obj.cells #[Value.slice none 0 0, Value.int IntKind.i64 0] 42)).alloc (.map #[] 0)).mod p2 (by omega)).mod q2 (by omega)
  replace b2 := ((b2.alloc (.map #[] 0)).mod p2 (by omega)).mod q2 (by omega)
  have m2 : Mod (fun _ => False) w w2 := (((((Mod.refl _ _).alloc _).alloc _).alloc _).alloc _).trans' (p2.trans q2) (fun _ _ h => h) (fun k hk e => by omega)
  have s2 : w2.heap.size = w.heap.size + 1 + 1 + 1 + 1 := by rw [q3, p3]; simp
  clear p1 p2 p3 q2 q3 gmap
  have s3 : (w2.alloc (.cells #[.map (some (w.heap.size + 1 + 1 + 1))] 274)).heap.size = w.heap.size + 1 + 1 + 1 + 1 + 1 := by simp [s2]
  have k4 := (Blk.new w2 #[.map (some (w.heap.size + 1 + 1 + 1))] 274)
  rw [s2] at k4
  have k5 := (Blk.new (w2.alloc (.cells #[.map (some (w.heap.size + 1 + 1 + 1))] 274)) #[.func (.func 206) #[] #[.pointer (some ⟨w.heap.size + 1 + 1 + 1 + 1, 0, none⟩), .pointer (some ⟨w.heap.size, 0, none⟩), .pointer (some ⟨w.heap.size + 1 + 1 + 1 + 1 + 1, 0, none⟩), .pointer (some ⟨w.heap.size + 1 + 1, 0, none⟩)]] 275)
  rw [s3] at k5
  have hW : VisW w.heap.size N aN capN (w.heap.size + 1 + 1 + 1 + 1) (w.heap.size + 1 + 1 + 1) w.heap.size bb (w.heap.size + 1 + 1 + 1 + 1 + 1) (w.heap.size + 1 + 1) 0
      ((w2.alloc (.cells #[.map (some (w.heap.size + 1 + 1 + 1))] 274)).alloc (.cells #[.func (.func 206) #[] #[.pointer (some ⟨w.heap.size + 1 + 1 + 1 + 1, 0, none⟩), .pointer (some ⟨w.heap.size, 0, none⟩), .pointer (some ⟨w.heap.size + 1 + 1 + 1 + 1 + 1, 0, none⟩), .pointer (some ⟨w.heap.size + 1 + 1, 0, none⟩)]] 275)) (.slice none 0 0) VS.init := by
    have m4 := (m2.alloc (.cells #[.map (some (w.heap.size + 1 + 1 + 1))] 274)).alloc (.cells #[.func (.func 206) #[] #[.pointer (some ⟨w.heap.size + 1 + 1 + 1 + 1, 0, none⟩), .pointer (some ⟨w.heap.size, 0, none⟩), .pointer (some ⟨w.heap.size + 1 + 1 + 1 + 1 + 1, 0, none⟩), .pointer (some ⟨w.heap.size + 1 + 1, 0, none⟩)]] 275)
    refine ⟨k4.alloc _, ⟨_, (q1.alloc _).alloc _, fun n => ?_⟩, (b0.alloc _).alloc _, m4.cell_of hbl (fun h => h), hrd.mod m4 (fun _ _ _ _ h => h), k5, (b2.alloc _).alloc _, OwnBr.nil _ _, ha, hbs, by omega, by omega, by omega⟩
    by_cases e0 : n = 0
    · subst e0; rfl
    · by_cases e1 : n = 1
      · subst e1; rfl
      · simp [VS.init, aset, aget, e0, e1]
  have b1' := (b1.alloc (.cells #[.map (some (w.heap.size + 1 + 1 + 1))] 274)).alloc (.cells #[.func (.func 206) #[] #[.pointer (some ⟨w.heap.size + 1 + 1 + 1 + 1, 0, none⟩), .pointer (some ⟨w.heap.size, 0, none⟩), .pointer (some ⟨w.heap.size + 1 + 1 + 1 + 1 + 1, 0, none⟩), .pointer (some ⟨w.heap.size + 1 + 1, 0, none⟩)]] 275)
  have m5 := (m2.alloc (.cells #[.map (some (w.heap.size + 1 + 1 + 1))] 274)).alloc (.cells #[.func (.func 206) #[] #[.pointer (some ⟨w.heap.size + 1 + 1 + 1 + 1, 0, none⟩), .pointer (some ⟨w.heap.size, 0, none⟩), .pointer (some ⟨w.heap.size + 1 + 1 + 1 + 1 + 1, 0, none⟩), .pointer (some ⟨w.heap.size + 1 + 1, 0, none⟩)]] 275)
  have vw := visit_walk _ N hN hl aN capN _ _ _ bb _ _ 0 (n.toNat + 1) n VS.init _ _ hW (VInv.init N) h0 h1 (by omega)
  have hp := numbered_post hN h0 h1
  clear hW k4 k5 s3 b0 b1 b2 q1 m2
  go_enter Tryz.func154, Tryz.ntmps154
  go_wp2_with fail
  refine vw.mono ?_
  rintro e w6 ⟨nv, rfl, z1, z2, z3⟩
  have b6 := b1'.mod z2 (by rintro (e | e | e); omega; omega; cases e)
  have o0 := z1.out.cell 0
  have o1 := z1.out.cell 1
  have f1 := z1.out.frozen 1
  have d0 := b6.cell 0
  have d1 := b6.cell 1
  have f3 := b6.frozen 0
  have f4 := b6.frozen 1
  simp at o0 o1 d0 d1
  obtain ⟨a, cap, hnv⟩ := z1.own.form
  have hz := z1.out.lt
  subst hnv
  clear b1' r1 r2 hmm hmf vw
  go_wp2_with fail
  have hs5 : w.heap.size + 1 + 1 + 1 + 1 + 1 + 1 ≤ w6.heap.size := by have := z2.size; simp [s2] at this; omega
  have hne : ∀ b o, a = some ⟨b, o, none⟩ → b ≠ w.heap.size + 1 ∧ b ≠ w.heap.size + 1 + 1 ∧ w.heap.size ≤ b := by
    rintro b o rfl
    exact ⟨z1.own.ne_blk rfl b6 (by decide), z1.own.ne_blk rfl z1.out (by decide), (z1.own.lt (g := b) rfl).1⟩
  refine bodyPost_ret (v := .agg #[.slice a (visit N (n.toNat + 1) n VS.init).2.out.length cap, .int .i64 (visit N (n.toNat + 1) n VS.init).1]) ?_ rfl ⟨a, cap, rfl, ?_, fun b o e => (hne b o e).2.2, ?_⟩
  · simp [results, Tryz.results154, go_sem, d0, d1]
  · refine z1.own.rd.mod (S := fun k => k = w.heap.size + 1 ∨ k = w.heap.size + 1 + 1) ((((Mod.refl _ _).setCell (.inl (.inr rfl)) _).setCell (.inl (.inl rfl)) _).setCell (.inl (.inl rfl)) _) ?_
    intro b o e _
    have := hne b o e
    omega
  · have mm : Mod (fun k => w.heap.size ≤ k) w (((w6.setCell { block := w.heap.size + 1 + 1, off := 1 } (.int .i64 (visit N (n.toNat + 1) n VS.init).1)).setCell { block := w.heap.size + 1, off := 0 } (.slice a (visit N (n.toNat + 1) n VS.init).2.out.length cap)).setCell { block := w.heap.size + 1, off := 1 } (.int .i64 (visit N (n.toNat + 1) n VS.init).1)) := by
      refine (((Mod.trans' m5 z2 (fun _ _ h => h.elim) ?_).setCell (.inl ?_) _).setCell (.inl ?_) _).setCell (.inl ?_) _
      · rintro k _ (e | e | e)
        · omega
        · omega
        · cases e
      · show w.heap.size ≤ w.heap.size + 1 + 1; omega
      · show w.heap.size ≤ w.heap.size + 1; omega
      · show w.heap.size ≤ w.heap.size + 1; omega
    exact mm.below (Nat.le_refl _) (fun k hk h => by omega)
end Go.Proofs.YtpekmohnjpbkgaaGreatDoor

namespace Go.Proofs.YtpekmohnjpbkgaaGreatDoor
open Go Go.RowKit
set_option maxHeartbeats 400000
set_option maxRecDepth 100000

theorem take_eq_succ {α : Type} {L M : List α} {k : Nat} (h : L.take k = M.take k) {x : α} (h1 : L[k]? = some x) (h2 : M[k]? = some x) : L.take (k + 1) = M.take (k + 1) := by
  rw [List.take_add_one, List.take_add_one, h, h1, h2]

theorem equal_len (L M : List Br) (a b : Option Addr) (ca cb : Nat) (w : World) (h : L.length ≠ M.length) :
    Calls Tryz.prog 107 #[.slice a L.length ca, .slice b M.length cb] w fun e w' => e = .returned (.bool (decide (L = M))) ∧ Below w.heap.size w w' := by
  have e : decide (L = M) = false := decide_eq_false (fun e => h (by rw [e]))
  rw [e]
  clear e
  have hb : (((L.length : Nat) : Int) != ((M.length : Nat) : Int)) = true := by rw [bne_iff_ne]; omega
  generalize L.length = l at *
  generalize M.length = m at *
  go_enter Tryz.func107, Tryz.ntmps107
  go_wp2
  go_ret
  exact ⟨rfl, Below.refl _ _⟩

theorem equal_same (L M : List Br) (a b : Option Addr) (ca cb : Nat) (w : World) (hl : L.length = M.length) (hL : L.length ≤ 1099511627700) (ra : Rd w a (brCells L)) (rb : Rd w b (brCells M)) :
    Calls Tryz.prog 107 #[.slice a L.length ca, .slice b M.length cb] w fun e w' => e = .returned (.bool (decide (L = M))) ∧ Below w.heap.size w w' := by
  have HL := Lib.hid hl
  rw [← hl]
  clear hl
  generalize hn : L.length = len at *
  have HN := Lib.hid hn
  clear hn
  have hne : (((len : Nat) : Int) != ((len : Nat) : Int)) = false := by simp
  go_enter Tryz.func107, Tryz.ntmps107
  go_wp2
  go_loopw [5, 13] (fun _ i wr => ∃ k n : Nat, k ≤ len ∧ i = .int .i64 k ∧ Hid (L.take k = M.take k) ∧ wr = w.drewN n) (fun _ i _ => len - (intOf i).toNat)
  case atStart => exact ⟨0, 0, Nat.zero_le _, rfl, rfl, rfl⟩
  case round =>
    obtain ⟨k, n, hk, rfl, ht, rfl⟩ := hrel
    by_cases hlt : k < len
    · obtain ⟨x, hx⟩ : ∃ x, L[k]? = some x := ⟨L[k]'(by have := HN.out; omega), List.getElem?_eq_getElem _⟩
      obtain ⟨y, hy⟩ : ∃ y, M[k]? = some y := ⟨M[k]'(by have := HN.out; have := HL.out; omega), List.getElem?_eq_getElem _⟩
      obtain ⟨b1, o1, rfl, hb1, x0, x1, x2⟩ := ra.br hx
      obtain ⟨b2, o2, rfl, hb2, y0, y1, y2⟩ := rb.br hy
      have HX := Lib.hid hx
      have HY := Lib.hid hy
      clear hx hy
      have i0 : (0 : Int) ≤ (k : Int) := by omega
      have i1 : (k : Int) < (len : Int) := by omega
      have hq := run_neq_br x y
      go_wp2_with fail
      go_quiet (fail)
      go_wp2_with fail
      · go_ret
        have h1 : (!decide (x = y)) = true := by assumption
        have h2 : decide (L = M) = false := decide_eq_false (fun e => by
          have h3 := HX.out
          rw [e, HY.out] at h3
          simp at h1
          exact h1 (Option.some.inj h3).symm)
        rw [h2]
        exact ⟨rfl, bdrewN (bdrewN (Below.refl _ _) _) _⟩
      · have h1 : (!decide (x = y)) = false := by assumption
        have h2 : x = y := by simpa using h1
        go_roundw
        case rel => exact ⟨k + 1, _, by omega, by go_num, take_eq_succ ht.out HX.out (by rw [h2]; exact HY.out), rfl⟩
        case measure => simp [intOf]; omega
    · go_wp2
      go_ret
      have : k = len := by omega
      subst this
      have h1 := ht.out
      rw [List.take_of_length_le (by rw [HN.out]; exact Nat.le_refl _), List.take_of_length_le (by rw [← HL.out]; exact Nat.le_refl _)] at h1
      have h2 : decide (L = M) = true := decide_eq_true h1
      rw [h2]
      exact ⟨rfl, bdrewN (Below.refl _ _) _⟩

theorem equal_any (L M : List Br) (a b : Option Addr) (ca cb : Nat) (w : World) (hL : L.length ≤ 1099511627700) (ra : Rd w a (brCells L)) (rb : Rd w b (brCells M)) :
    Calls Tryz.prog 107 #[.slice a L.length ca, .slice b M.length cb] w fun e w' => e = .returned (.bool (decide (L = M))) ∧ Below w.heap.size w w' := by
  by_cases h : L.length = M.length
  · exact equal_same L M a b ca cb w h hL ra rb
  · exact equal_len L M a b ca cb w h

theorem level_any (N : List Br) (root n : Int) (a : Option Addr) (cap : Nat) (w : World) (hr : Rd w a (brCells N)) (hl : N.length ≤ 1099511627700) (h1 : n < N.length + 2) :
    Calls Tryz.prog 153 #[.agg #[.slice a N.length cap, .int .i64 root], .int .i64 n] w fun e w' => e = .returned (.int .i64 (levelN N n)) ∧ Below w.heap.size w w' := by
  by_cases h0 : n < 2
  · have e : levelN N n = 64 := by simp [levelN, h0]
    rw [e]; clear e
    go_enter Tryz.func153, Tryz.ntmps153
    go_wp2
    go_ret
    exact ⟨rfl, (Below.refl _ _).alloc (Nat.le_refl _) _⟩
  · obtain ⟨i, x, hi, hx, rfl⟩ := getBr h0 h1
    obtain ⟨b, o, rfl, hb, c0, -, -⟩ := hr.br hx
    rw [levelN_of hx]
    clear h0 h1 hx hr
    generalize N.length = len at *
    go_enter Tryz.func153, Tryz.ntmps153
    go_wp2
    go_ret
    exact ⟨rfl, (Below.refl _ _).alloc (Nat.le_refl _) _⟩

/-- The numbers to which a number leads by a condition. -/
def sidesN (N : List Br) (n v : Int) : Int × Int := if levelN N n = v then ((nodeAt N n).low, (nodeAt N n).high) else (n, n)

theorem sides_other (N : List Br) (root n v : Int) (a : Option Addr) (cap : Nat) (w : World) (hr : Rd w a (brCells N)) (hl : N.length ≤ 1099511627700) (h1 : n < N.length + 2) (hv : (levelN N n != v) = true) :
    Calls Tryz.prog 173 #[.agg #[.slice a N.length cap, .int .i64 root], .int .i64 n, .int .i64 v] w fun e w' => e = .returned (.tuple #[.int .i64 n, .int .i64 n]) ∧ Below w.heap.size w w' := by
  have hr1 : ∀ o, Rd (w.alloc o) a (brCells N) := fun o => hr.below ((Below.refl _ _).alloc (Nat.le_refl _) _)
  go_enter Tryz.func173, Tryz.ntmps173
  go_wp2_with (go_at_call 153; refine (level_any N _ _ _ _ _ (hr1 _) hl h1).mono ?_; rintro e w1 ⟨rfl, hb⟩)
  go_ret2
  exact ⟨rfl, ((Below.refl _ _).alloc (Nat.le_refl _) _).trans (hb.mono (by simp))⟩

theorem sides_here (N : List Br) (root : Int) (i : Nat) (x : Br) (a : Option Addr) (cap : Nat) (w : World) (hr : Rd w a (brCells N)) (hl : N.length ≤ 1099511627700) (hi : i < N.length) (hx : N[i]? = some x) :
    Calls Tryz.prog 173 #[.agg #[.slice a N.length cap, .int .i64 root], .int .i64 ((i : Int) + 2), .int .i64 x.var] w fun e w' => e = .returned (.tuple #[.int .i64 x.low, .int .i64 x.high]) ∧ Below w.heap.size w w' := by
  have hr1 : ∀ o, Rd (w.alloc o) a (brCells N) := fun o => hr.below ((Below.refl _ _).alloc (Nat.le_refl _) _)
  have hlev := levelN_of hx
  have HL := Lib.hid hlev
  clear hlev
  obtain ⟨b, o, ha, hb0, c0, c1, c2⟩ := hr.br hx
  have hlev1 := fun o => level_any N root ((i : Int) + 2) a cap _ (hr1 o) hl (by omega)
  have hn : (x.var != x.var) = false := by simp
  clear hr1 hr hx
  subst ha
  generalize N.length = len at *
  go_enter Tryz.func173, Tryz.ntmps173
  go_wp2_with (go_at_call 153; refine (hlev1 _).mono ?_; rintro e w1 ⟨rfl, hb⟩; rw [HL.out]; obtain ⟨hc, hf⟩ := bcell hb)
  go_quiet (fail)
  go_wp2
  go_ret2
  exact ⟨rfl, bdrewN (((Below.refl _ _).alloc (Nat.le_refl _) _).trans (hb.mono (by simp))) _⟩

theorem sides_any (N : List Br) (root n v : Int) (a : Option Addr) (cap : Nat) (w : World) (hr : Rd w a (brCells N)) (hl : N.length ≤ 1099511627700) (h0 : 0 ≤ n) (h1 : n < N.length + 2) (hv : v < 64) :
    Calls Tryz.prog 173 #[.agg #[.slice a N.length cap, .int .i64 root], .int .i64 n, .int .i64 v] w fun e w' => e = .returned (.tuple #[.int .i64 (sidesN N n v).1, .int .i64 (sidesN N n v).2]) ∧ Below w.heap.size w w' := by
  unfold sidesN
  by_cases h : levelN N n = v
  · rw [if_pos h]
    rcases num_cases h0 h1 with rfl | rfl | ⟨i, x, hx, rfl⟩
    · simp [levelN] at h; omega
    · simp [levelN] at h; omega
    · rw [nodeAt_of hx]
      rw [levelN_of hx] at h
      subst h
      exact sides_here N root i x a cap w hr hl (List.getElem?_eq_some_iff.1 hx).1 hx
  · rw [if_neg h]
    exact sides_other N root n v a cap w hr hl h1 (by rw [bne_iff_ne]; exact h)

/-- A set that is handed in: its branches lie in memory. -/
def DgArg (w : World) (a : Option Addr) (d : Dg) : Prop := Rd w a (brCells d.nodes)

theorem same_any (d e : Dg) (a b : Option Addr) (ca cb : Nat) (w : World) (hd : d.nodes.length ≤ 1099511627700) (ra : Rd w a (brCells d.nodes)) (rb : Rd w b (brCells e.nodes)) :
    Calls Tryz.prog 55 #[.agg #[.slice a d.nodes.length ca, .int .i64 d.root], .agg #[.slice b e.nodes.length cb, .int .i64 e.root]] w fun r w' => r = .returned (.bool (decide (d = e))) ∧ Below w.heap.size w w' := by
  obtain ⟨dn, dr⟩ := d
  obtain ⟨en, er⟩ := e
  simp only at *
  by_cases h : dr = er
  · have he : decide ((⟨dn, dr⟩ : Dg) = ⟨en, er⟩) = decide (dn = en) := by simp [h]
    rw [he]
    clear he
    have hb : (dr == er) = true := by simpa using h
    have HB := Lib.hid h
    clear h
    have ra' := fun o p => (ra.below ((Below.refl _ _).alloc (Nat.le_refl _) o)).below ((Below.refl _ _).alloc (Nat.le_refl _) p)
    have rb' := fun o p => (rb.below ((Below.refl _ _).alloc (Nat.le_refl _) o)).below ((Below.refl _ _).alloc (Nat.le_refl _) p)
    go_enter Tryz.func55, Tryz.ntmps55
    go_wp2_with (go_at_call 107; refine (equal_any dn en a b ca cb _ hd (ra' _ _) (rb' _ _)).mono ?_; rintro e w1 ⟨rfl, hb⟩)
    go_ret
    exact ⟨rfl, (((Below.refl _ _).alloc (Nat.le_refl _) _).alloc (by simp) _).trans (hb.mono (by simp; omega))⟩
  · have he : decide ((⟨dn, dr⟩ : Dg) = ⟨en, er⟩) = false := by simp [h]
    rw [he]
    have hb : (dr == er) = false := by simpa using h
    clear h he
    go_enter Tryz.func55, Tryz.ntmps55
    go_wp2
    go_ret
    exact ⟨rfl, ((Below.refl _ _).alloc (Nat.le_refl _) _).alloc (by simp) _⟩

def constD (b : Bool) : Dg := ⟨[], if b then 1 else 0⟩

theorem constant_any (b : Bool) (w : World) : Calls Tryz.prog 52 #[.bool b] w (DgPost w (constD b)) := by
  cases b
  all_goals
    go_enter Tryz.func52, Tryz.ntmps52
    go_wp2
  · exact bodyPost_ret (v := .agg #[.slice none 0 0, .int .i64 0]) (by simp [results, Tryz.results52, go_sem]) rfl ⟨none, 0, rfl, Rd.nil _ _, (by intro _ _ h; cases h), (Below.refl _ _).alloc (Nat.le_refl _) _⟩
  · exact bodyPost_ret (v := .agg #[.slice none 0 0, .int .i64 1]) (by simp [results, Tryz.results52, go_sem]) rfl ⟨none, 0, rfl, Rd.nil _ _, (by intro _ _ h; cases h), (Below.refl _ _).alloc (Nat.le_refl _) _⟩
end Go.Proofs.YtpekmohnjpbkgaaGreatDoor
