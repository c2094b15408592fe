/- strings.Builder, wherever it lies: copyCheck, WriteString, Len. strings.Builder, wherever it lies: Len, String. -/
import Derived.Test.YtpekmohnjpbkgaaGreatDoorGroupE
import Derived.Lib.Builder
import Derived.Lib.AppendStr
import Derived.Lib.Walk
import Derived.Laws.Externs
import Derived.Lib.UnsafeStr
import Derived.RegionTactic
namespace Go.Proofs.YtpekmohnjpbkgaaGreatDoor
open Go Go.RowKit
set_option maxHeartbeats 1000000
set_option maxRecDepth 100000
attribute [local go_sem ↓] Go.wp_at_zero Go.wp_at_succ

/-- A builder may lie at offset o of a block of type T with n cells. -/
structure Place (T : TypeId) (o n : Nat) : Prop where
  lies : liesAt Tryz.prog Tryz.prog.depth T (n / Tryz.prog.cellsOf T) o 122 1 = true
  lt : o + 1 < n
theorem place_own : Place 122 0 2 := ⟨by kernel_rfl, by omega⟩
theorem place_reader : Place 124 5 11 := ⟨by kernel_rfl, by omega⟩

theorem Blk.shape {w : World} {k : Nat} {c : Array Value} {e : TypeId} (h : Blk w k c e) : w.shape? k = some (e, c.size) := by
  unfold Blk at h
  simp [World.shape?, h]

theorem copyCheck_fresh {T : TypeId} {o n : Nat} (P : Place T o n) (b : Nat) (c : Array Value) (w : World) (h : Blk w b c T) (hn : c.size = n) (h0 : c[o]? = some (.pointer none)) :
    Calls Tryz.prog 157 #[.pointer (some ⟨b, o, none⟩)] w fun e w' => e = .returned (.tuple #[]) ∧ w' = w.setCell ⟨b, o, none⟩ (.pointer (some ⟨b, o, none⟩)) := by
  obtain ⟨j, hj, hjs⟩ : ∃ j, Tryz.prog.info? 122 = some j ∧ j.size = 2 := by
    have : (Tryz.prog.info? 122).map (fun i => i.size) = some 2 := by kernel_rfl
    exact Option.map_eq_some_iff.1 this
  have hc : w.cell? ⟨b, o, none⟩ = some (.pointer none) := by rw [h.cell]; exact h0
  have hf := h.frozen o
  have hlt := h.lt
  have hsh := h.shape
  rw [hn] at hsh
  have hto := Lib.run_to_unsafe (P := Tryz.prog) (w := w) ⟨b, o, none⟩ Tryz.underlying120 Tryz.underlying276 hj (by rw [hjs]; decide) hsh (by have := P.lt; show o < n; omega)
  have hfrom := Lib.run_from_unsafe (P := Tryz.prog) (w := w) ⟨b, o, none⟩ Tryz.underlying276 Tryz.underlying120 hj hsh P.lies
  clear h h0 hn hsh hjs
  go_enter Tryz.func157, Tryz.ntmps157
  go_wp2_with fail
  rw [run_callFunc_extern Tryz.func208 (by kernel_rfl) (by kernel_rfl) (by kernel_rfl) (e := Extern.AbiNoEscape.same) (by kernel_rfl)]
  rw [Lib.run_noEscape]
  simp only [Result.andThen]
  rw [Oper.upon_value]
  go_wp2_with fail
  go_end0
  exact ⟨rfl, rfl⟩

theorem copyCheck_used {T : TypeId} (b o : Nat) (c : Array Value) (w : World) (h : Blk w b c T) (h0 : c[o]? = some (.pointer (some ⟨b, o, none⟩))) :
    Calls Tryz.prog 157 #[.pointer (some ⟨b, o, none⟩)] w fun e w' => e = .returned (.tuple #[]) ∧ w' = w := by
  obtain ⟨j, hj, hjs⟩ : ∃ j, Tryz.prog.info? 122 = some j ∧ j.size = 2 := by
    have : (Tryz.prog.info? 122).map (fun i => i.size) = some 2 := by kernel_rfl
    exact Option.map_eq_some_iff.1 this
  have hc : w.cell? ⟨b, o, none⟩ = some (.pointer (some ⟨b, o, none⟩)) := by rw [h.cell]; exact h0
  have hlt := h.lt
  clear h h0 hjs
  go_enter Tryz.func157, Tryz.ntmps157
  go_wp2_with fail
  rw [Lib.run_neq_ptr_same _ _ Tryz.underlying120 hj]
  simp only [Result.andThen]
  rw [Oper.upon_value]
  go_wp2_with fail
  go_end0
  exact ⟨rfl, rfl⟩

/-- What a builder's first cell may hold. -/
def IsBp (b o : Nat) (bp : Value) : Prop := bp = .pointer none ∨ bp = .pointer (some ⟨b, o, none⟩)

theorem copyCheck_any {T : TypeId} {o n : Nat} (P : Place T o n) (b : Nat) (c : Array Value) (bp : Value) (w : World) (h : Blk w b c T) (hn : c.size = n) (h0 : c[o]? = some bp) (hp : IsBp b o bp) :
    Calls Tryz.prog 157 #[.pointer (some ⟨b, o, none⟩)] w fun e w' => e = .returned (.tuple #[]) ∧ Blk w' b (c.setIfInBounds o (.pointer (some ⟨b, o, none⟩))) T ∧ Mod (fun k => k = b) w w' ∧ w'.heap.size = w.heap.size := by
  rcases hp with rfl | rfl
  · refine (copyCheck_fresh P b c w h hn h0).mono ?_
    rintro e w' ⟨rfl, rfl⟩
    exact ⟨rfl, h.setCell _ _, (Mod.refl (fun k => k = b) w).setCell (p := ⟨b, o, none⟩) (.inl rfl) _, by simp [World.setCell]⟩
  · refine (copyCheck_used b o c w h h0).mono ?_
    rintro e w' ⟨rfl, rfl⟩
    refine ⟨rfl, ?_, Mod.refl _ _, rfl⟩
    have e1 : c.setIfInBounds o (.pointer (some ⟨b, o, none⟩)) = c := by
      apply Array.ext
      · simp
      · intro i h1 h2
        rw [Array.getElem_setIfInBounds (by simpa using h2)]
        split
        · rename_i e
          subst e
          have := Array.getElem?_eq_getElem h2
          rw [h0] at this
          exact Option.some.inj this
        · rfl
    rw [e1]
    exact h

/-! ### Bytes appended to a row of the call's own -/

def byteCell (b : UInt8) : List Value := [.int .u8 b.toNat]
theorem strCells_bytes (l : List UInt8) : Lib.strCells ⟨l.toArray⟩ = rowCells byteCell l := by
  simp only [Lib.strCells, rowCells]
  induction l with
  | nil => rfl
  | cons b l ih =>
    rw [List.flatMap_cons, ← ih]
    rfl

theorem info5 : (Tryz.prog.info? 5).map (fun i => (i.zero, i.size, i.bytes)) = some (some (.int .u8 0), 1, 1) := by kernel_rfl

/-- Where what 'append' answers lies. -/
theorem append_bytes (w : World) (base : Nat) (ty : TypeId) (v : Value) (text s : List UInt8) (hown : Own 5 1 byteCell base w v text) (hlen : text.length + s.length ≤ 1099511627776) (hbase : base ≤ w.heap.size) :
    ∃ v' w', (Builtin.append_ #[99, 9] ty #[v, str s]).run Tryz.prog w = .ok v' w' ∧ Own 5 1 byteCell base w' v' (text ++ s) ∧ w.grownBy w' v.ownBlock ∧ ∀ g, v'.ownBlock = some g → v.ownBlock = some g ∨ w.heap.size ≤ g := by
  obtain ⟨i, hi, hz0, hz1, hz2⟩ := info_parts info5
  have hs : (⟨s.toArray⟩ : ByteArray).size = s.length := rfl
  have key := fun base' (ho : w.ownsRow base' 5 1 v text.length (rowCells byteCell text)) (hb : base' ≤ w.heap.size) =>
    Lib.run_append_own_string (P := Tryz.prog) w base' 99 9 ty 5 i Tryz.underlying99 Tryz.underlying9 hi hz0 hz1 hz2 v text.length _ ho ⟨s.toArray⟩ (by rw [hs]; unfold maxLen; omega) (by rw [hs]; omega) hb
  obtain ⟨v', w', hr, h2, h3, h4⟩ := key base hown hbase
  refine ⟨v', w', hr, ?_, h3, ?_⟩
  · rw [hs, strCells_bytes, ← rowCells_append] at h2
    unfold Own
    rw [List.length_append]
    exact h2
  · intro g hg
    rcases hown.2 with ⟨rfl, h0⟩ | ⟨g0, cap, cur, rfl, _, hh, hc, _, hsz, htake⟩
    · have htext : text = [] := List.length_eq_zero_iff.1 h0
      subst htext
      obtain ⟨v2, w2, hr2, h22, _⟩ := key w.heap.size (World.ownsRow_nil _ _ _ _) (Nat.le_refl _)
      rw [hr] at hr2
      cases hr2
      exact .inr (World.ownsRow.lt h22 g hg).1
    · by_cases hroom : text.length + s.length ≤ cap
      · have hr2 := Lib.run_append_room_string (P := Tryz.prog) w 99 9 ty 5 i Tryz.underlying99 Tryz.underlying9 hi hz1 g0 text.length cap cur hh ⟨s.toArray⟩ (by rw [hs]; exact hroom) (by rw [hs]; omega)
        rw [hr] at hr2
        cases hr2
        exact .inl hg
      · have holds : ∀ j u, (rowCells byteCell text)[j]? = some u → w.cell? ((⟨g0, 0, none⟩ : Addr).add j) = some u := World.ownsRow.cells (g := g0) hown rfl
        have hl : (rowCells byteCell text).length = text.length * i.size := by rw [hz1]; exact hown.1
        have hr2 := Lib.run_append_grow_string (P := Tryz.prog) w 99 9 ty 5 i (.int .u8 0) Tryz.underlying99 Tryz.underlying9 hi hz0 ⟨g0, 0, none⟩ text.length cap _ hl holds ⟨s.toArray⟩ (by rw [hs]; omega) (by rw [hs]; omega) (by rw [hz2, hs]; exact growslice_fits (by omega) (by omega))
        rw [hr] at hr2
        cases hr2
        cases hg
        exact .inr (Nat.le_refl _)

theorem wpList_append_bytes {w : World} {ops : Array Oper} {rest : List Oper} {o : Oper} {a : Act} {Q : Exit → Act → World → Prop} (hgd : o.guard = none) (sl x : Operand)
    (ho : o.op = .call { callee := .builtin .append, args := #[sl, x], argTypes := #[99, 9] })
    (base : Nat) (v : Value) (text s : List UInt8) (hs : a.eval sl = v) (hown : Own 5 1 byteCell base w v text) (hx : a.eval x = str s) (hlen : text.length + s.length ≤ 1099511627776) (hbase : base ≤ w.heap.size)
    (h : ∀ v' w', Own 5 1 byteCell base w' v' (text ++ s) → w.grownBy w' v.ownBlock → (∀ g, v'.ownBlock = some g → v.ownBlock = some g ∨ w.heap.size ≤ g) → wpList Tryz.prog ops Q rest (a.put o.dst v') w') : wpList Tryz.prog ops Q (o :: rest) a w := by
  refine wpList_plain hgd fun K hK => ?_
  obtain ⟨v', w', hr, h2, h3, h4⟩ := append_bytes w base o.type v text s hown hlen hbase
  unfold Oper.wp execOp
  simp only [ho, resolve, invoke, builtin, Sem.run_bind, Sem.run_pure, Result.andThen_ok, List.map_toArray, List.map_cons, List.map_nil, hs, hx, hr]
  exact hK _ _ (h v' w' h2 h3 h4)

/-- The builder's block behind a write. -/
def bset (c : Array Value) (b o : Nat) (v : Value) : Array Value := (c.setIfInBounds o (.pointer (some ⟨b, o, none⟩))).setIfInBounds (o + 1) v

theorem writeString_any {T : TypeId} {o n : Nat} (P : Place T o n) (hT : T ≠ 5) (b : Nat) (c : Array Value) (bp bv : Value) (base : Nat) (text s : List UInt8) (w : World) (h : Blk w b c T) (hn : c.size = n) (h0 : c[o]? = some bp) (hp : IsBp b o bp) (h1 : c[o + 1]? = some bv)
    (own : Own 5 1 byteCell base w bv text) (hlen : text.length + s.length ≤ 1099511627776) (hbase : base ≤ w.heap.size) :
    Calls Tryz.prog 84 #[.pointer (some ⟨b, o, none⟩), str s] w fun e w' => e = .returned (.tuple #[.int .i64 s.length, .nilIface]) ∧ ∃ bv', Blk w' b (bset c b o bv') T ∧ Own 5 1 byteCell base w' bv' (text ++ s) ∧
      Mod (fun k => k = b ∨ bv.ownBlock = some k) w w' ∧ ∀ g, bv'.ownBlock = some g → bv.ownBlock = some g ∨ w.heap.size ≤ g := by
  have cc := copyCheck_any P b c bp w h hn h0 hp
  have hlt := P.lt
  obtain ⟨vA, vC, rfl⟩ := own.form
  go_enter Tryz.func84, Tryz.ntmps84
  go_wp2_with fail
  refine cc.mono ?_
  clear cc
  rintro e w1 ⟨rfl, k1, m1, hz1⟩
  have own1 := own.mod m1 (fun g e => own.ne_blk e h hT)
  have c1 : w1.cell? ⟨b, o + 1, none⟩ = some (.slice vA text.length vC) := by
    rw [k1.cell, Array.getElem?_setIfInBounds_ne (by omega)]
    exact h1
  have hk1 := k1.lt
  have hne : (Value.slice vA text.length vC).ownBlock ≠ some b := fun e => own1.ne_blk e k1 hT rfl
  go_wp2_with (at_builtin; refine wpList_append_bytes (by rfl) _ _ (by rfl) base (.slice vA text.length vC) text s (by rfl) own1 (by rfl) hlen (by omega) ?_)
  intro v' w2 own2 grow new2
  have k2 := k1.mod (Mod.of_grown grow) (fun e => hne e.symm)
  obtain ⟨vA', vC', rfl⟩ := own2.form
  have c2 : w2.cell? ⟨b, o + 1, none⟩ = some (.slice vA text.length vC) := by
    rw [k2.cell, Array.getElem?_setIfInBounds_ne (by omega)]
    exact h1
  have f2 := k2.frozen (o + 1)
  have hk2 := k2.lt
  have hs : (⟨s.toArray⟩ : ByteArray).size = s.length := rfl
  have own3 := own2.setCell (p := ⟨b, o + 1, none⟩) (fun g e => own2.ne_blk e k2 hT) (.slice vA' (text ++ s).length vC')
  have k3 := k2.setCell (o + 1) (.slice vA' (text ++ s).length vC')
  have mm : Mod (fun k => k = b ∨ (Value.slice vA text.length vC).ownBlock = some k) w (w2.setCell ⟨b, o + 1, none⟩ (.slice vA' (text ++ s).length vC')) :=
    ((m1.mono (fun _ _ e => .inl e)).grown grow (fun k e _ => .inr e)).setCell (p := ⟨b, o + 1, none⟩) (.inl (.inl rfl)) _
  clear own k1 c1 hs
  go_wp2_with fail
  go_ret2
  simp only [List.length_append] at new2
  rw [List.length_append] at k3 own3 mm
  exact ⟨rfl, _, k3, own3, mm, new2⟩
end Go.Proofs.YtpekmohnjpbkgaaGreatDoor

namespace Go.Proofs.YtpekmohnjpbkgaaGreatDoor
open Go Go.RowKit
set_option maxHeartbeats 1000000
set_option maxRecDepth 100000
attribute [local go_sem ↓] Go.wp_at_zero Go.wp_at_succ

theorem len_any {T : TypeId} (b o : Nat) (c : Array Value) (bv : Value) (base : Nat) (text : List UInt8) (w : World) (h : Blk w b c T) (h1 : c[o + 1]? = some bv) (own : Own 5 1 byteCell base w bv text) :
    Calls Tryz.prog 200 #[.pointer (some ⟨b, o, none⟩)] w fun e w' => e = .returned (.int .i64 text.length) ∧ w' = w := by
  obtain ⟨vA, vC, rfl⟩ := own.form
  have c1 : w.cell? ⟨b, o + 1, none⟩ = some (.slice vA text.length vC) := by rw [h.cell]; exact h1
  have hlt := h.lt
  clear h h1 own
  go_enter Tryz.func200, Tryz.ntmps200
  go_wp2_with fail
  go_ret
  exact ⟨rfl, rfl⟩

theorem Mod.freeze {S : Nat → Prop} {a w : World} (h : Mod S a w) {p : Addr} (hp : S p.block ∨ a.heap.size ≤ p.block) (n : Nat) : Mod S a (w.freeze p n) := by
  have key : (w.freeze p n).os = w.os ∧ (w.freeze p n).tape = w.tape ∧ (w.freeze p n).output = w.output ∧ (w.freeze p n).heap.size = w.heap.size ∧ ∀ k, k ≠ p.block → (w.freeze p n).heap[k]? = w.heap[k]? := by
    unfold World.freeze
    split
    · exact ⟨rfl, rfl, rfl, rfl, fun _ _ => rfl⟩
    · refine ⟨rfl, rfl, rfl, by simp, fun k hk => ?_⟩
      simp only [Array.getElem?_modify]
      rw [if_neg (fun e => hk e.symm)]
  obtain ⟨k1, k2, k3, k4, k5⟩ := key
  refine ⟨k1.trans h.os, k2.trans h.tape, k3.trans h.output, by rw [k4]; exact h.size, fun k hk hs => ?_⟩
  rw [k5 k (by rintro rfl; rcases hp with hp | hp; exact hs hp; omega)]
  exact h.block k hk hs

theorem string_any {T : TypeId} (b o : Nat) (c : Array Value) (bv : Value) (base : Nat) (text : List UInt8) (w : World) (h : Blk w b c T) (h1 : c[o + 1]? = some bv) (own : Own 5 1 byteCell base w bv text) (hnil : text = [] → bv = .slice none 0 0) :
    Calls Tryz.prog 74 #[.pointer (some ⟨b, o, none⟩)] w fun e w' => e = .returned (str text) ∧ Mod (fun k => bv.ownBlock = some k) w w' := by
  have hlt := h.lt
  have c1 : w.drew.cell? ⟨b, o + 1, none⟩ = some bv := by rw [h.drew.cell]; exact h1
  rcases own.2 with ⟨rfl, h0⟩ | ⟨g, cap, cur, rfl, hbg, hg, hnc, hcm, hcs, htake⟩
  · have ht : text = [] := List.length_eq_zero_iff.1 h0
    subst ht
    have hUS : ∀ W q, (Builtin.unsafeString_ #[205, 3] 9 #[.pointer q, .int .i64 0]).run Tryz.prog W = .ok (.string .empty) W := fun W q => Lib.run_unsafeString_none W _ _ _ q
    have hSD : ∀ W ty, (Builtin.unsafeSliceData_ #[99] ty #[.slice none 0 0]).run Tryz.prog W = .ok (.pointer none) W := fun _ _ => rfl
    clear own h h1
    go_enter Tryz.func74, Tryz.ntmps74
    go_wp2_with fail
    go_region
    all_goals
      go_wp2_with fail
      go_ret
      exact ⟨rfl, (Mod.refl _ _).drew⟩
  · have ht0 : text ≠ [] := fun e => by have := hnil e; cases this
    have hl0 : 1 ≤ text.length := by
      cases text with
      | nil => exact absurd rfl ht0
      | cons x l => simp
    have hSD : (Builtin.unsafeSliceData_ #[99] 205 #[.slice (some ⟨g, 0, none⟩) text.length cap]).run Tryz.prog w.drew = .ok (.pointer (some ⟨g, 0, none⟩)) w.drew :=
      Lib.run_unsafeSliceData_row _ _ _ _ _ _ (by omega)
    have hUS : (Builtin.unsafeString_ #[205, 3] 9 #[.pointer (some ⟨g, 0, none⟩), .int .i64 text.length]).run Tryz.prog w.drew = .ok (.string ⟨text.toArray⟩) (w.drew.freeze ⟨g, 0, none⟩ text.length) := by
      refine Lib.run_unsafeString_row w.drew 205 3 9 5 Tryz.underlying205 (by kernel_rfl) g cur.size (by have hg' : w.drew.heap[g]? = some (.cells cur 5 (0, 0)) := hg; simp [World.shape?, hg']) text ht0 (by omega) (by unfold maxLen at hcm; omega) ?_
      intro j x hx
      have := World.ownsRow.cells (g := g) own rfl j (.int .u8 x.toNat) (by rw [← strCells_bytes]; simp [Lib.strCells, hx])
      exact this
    clear own h h1 hnil ht0 htake hcs hcm hnc hg hbg
    go_enter Tryz.func74, Tryz.ntmps74
    go_wp2_with fail
    go_region
    all_goals
      go_wp2_with fail
      go_ret
      exact ⟨rfl, ((Mod.refl (fun k => (Value.slice (some ⟨g, 0, none⟩) text.length cap).ownBlock = some k) w).drew).freeze (p := ⟨g, 0, none⟩) (.inl rfl) _⟩
end Go.Proofs.YtpekmohnjpbkgaaGreatDoor
