/- The reader of expressions: an expression of operands. The reader of expressions: whole expressions. The reader of expressions: factors. formula.Parse: the deferred closure. formula.Parse. formula.arity. -/
import Derived.Test.YtpekmohnjpbkgaaGreatDoorGroupG
import Derived.Laws.EntriesVeiled
import Derived.Defers
import Derived.Recover
namespace Go.Proofs.YtpekmohnjpbkgaaGreatDoor
open Go Go.RowKit
set_option maxHeartbeats 1000000
set_option maxRecDepth 100000
attribute [local go_sem ↓] Go.wp_at_zero Go.wp_at_succ

/-- How a part of the reader ends. -/
def PPost (pn : Ending) (base rb mb : Nat) (M : List (List UInt8 × Int)) (X : World → Prop) (w : World) (fv : Value) (r : Option (Int × PS)) (e : Ending) (w' : World) : Prop :=
  match r with
  | some (a, s') => e = .returned (.int .i64 a) ∧ ∃ fv', RPost base rb mb M w fv s'.F s'.rest s'.u w' fv' ∧ X w'
  | none => e = pn ∧ Mod (RS rb fv) w w'

structure Operand' (pn : Ending) (base rb mb : Nat) (M : List (List UInt8 × Int)) (X : World → Prop) (fo : Nat) (fargs : Array Value) (o : PS → Option (Int × PS)) (N : Nat) : Prop where
  enter : ∀ args w, (callFunc fo args).run Tryz.prog w = .ok (.enter fo args) w
  keep : ∀ W W' fv F rest u, X W → RW base rb mb M W fv F rest u → Mod (RS rb fv) W W' → X W'
  calls : ∀ W fv s, X W → RW base rb mb M W fv s.F s.rest s.u → s.rest.length < N → s.F.length + s.rest.length ≤ 1099511627775 → Calls Tryz.prog fo fargs W (PPost pn base rb mb M X W fv (o s))
  shr : Shr o

theorem RPost.bad {base rb mb : Nat} {M : List (List UInt8 × Int)} {w w1 w2 : World} {fv v1 : Value} {F1 : List FN} {r1 : List UInt8} {u1 : Bool} (h : RPost base rb mb M w fv F1 r1 u1 w1 v1) (k : Mod (RS rb v1) w1 w2) : Mod (RS rb fv) w w2 := by
  have hs := h.mod.size
  refine h.mod.trans' k (fun _ _ h => h) ?_
  rintro i hi (e | e)
  · exact .inl e
  · rcases h.new i e with e | e
    · exact .inr e
    · omega

theorem expr_any (ch : List PanicEntry) (base rb mb : Nat) (M : List (List UInt8 × Int)) (X : World → Prop) (fo : Nat) (first caps : Array Value) (o : PS → Option (Int × PS)) (N : Nat) (hO : Operand' (.panicked ch) base rb mb M X fo (first ++ caps) o N)
    (sym : List UInt8) (hsym : 1 ≤ sym.length) (op : Int) (w : World) (fv : Value) (s : PS) (hX : X w) (h : RW base rb mb M w fv s.F s.rest s.u) (hN : s.rest.length < N) (hb : s.F.length + s.rest.length ≤ 1099511627775) :
    Calls Tryz.prog 190 #[.pointer (some ⟨rb, 0, none⟩), str sym, .int .i64 op, .func (.func fo) first caps] w (PPost (.panicked ch) base rb mb M X w fv (exprF o sym op s)) := by
  have hen := hO.enter
  have hc := hO.calls w fv s hX h hN hb
  cases ho : o s with
  | none =>
    rw [ho] at hc
    have he : exprF o sym op s = none := by simp [exprF, ho]
    rw [he]
    clear ho he
    go_enter Tryz.func190, Tryz.ntmps190
    go_wp2_with fail
    refine hc.mono ?_
    rintro e w1 ⟨rfl, hm⟩
    exact ⟨rfl, rfl, hm⟩
  | some p =>
    obtain ⟨a, s1⟩ := p
    rw [ho] at hc
    have hsh := hO.shr s a s1 ho
    have he : exprF o sym op s = loopF o sym op (s1.rest.length + 1) a s1 := by simp [exprF, ho]
    rw [he]
    generalize hres : loopF o sym op (s1.rest.length + 1) a s1 = res
    have HR := Lib.hid hres
    clear ho he hres
    go_enter Tryz.func190, Tryz.ntmps190
    go_wp2_with fail
    refine hc.mono ?_
    clear hc
    rintro e w1 ⟨rfl, v1, p1, x1⟩
    go_wp2_with fail
    go_loopg [9, 10] (s1.rest.length + 1) (fun k va vb wr => ∃ (a : Int) (s' : PS) (v' : Value), va = .int .i64 a ∧ s'.rest.length < k ∧ s'.rest.length < N ∧ s'.F.length + s'.rest.length ≤ 1099511627775 ∧ Hid (loopF o sym op k a s' = res) ∧ RPost base rb mb M w fv s'.F s'.rest s'.u wr v' ∧ X wr)
    case atStart => exact ⟨a, s1, v1, rfl, by omega, by omega, by omega, HR, p1, x1⟩
    case round =>
      obtain ⟨a, s', v', rfl, hk, hN', hb', HL, p', x'⟩ := hrel
      have hsk := skip_any rb mb s'.rest sym v' s'.u wr p'.rw.blk
      obtain ⟨g, rfl⟩ : ∃ g, gk = g + 1 := ⟨gk - 1, by omega⟩
      have hlt := @skipF_lt sym s'.rest
      have hle := skipF_le sym s'.rest
      cases hs : (skipF sym s'.rest).1
      · rw [hs] at hsk
        have hl : loopF o sym op (g + 1) a s' = some (a, (skipP sym s').2) := by simp [loopF, skipP, hs]
        have HL2 : Hid (res = some (a, (skipP sym s').2)) := Lib.hid (by rw [← HL.out, hl])
        clear hl hs hlt hle
        go_wp2_with fail
        refine hsk.mono ?_
        rintro e w2 ⟨rfl, b2, m2⟩
        have q2 := p'.rw.drop b2 m2
        go_wp2_with fail
        go_ret
        rw [HL2.out]
        exact ⟨rfl, v', p'.trans q2, hO.keep _ _ v' _ _ _ x' p'.rw (m2.mono (fun _ _ e => .inl e))⟩
      · rw [hs] at hsk
        have hlt := hlt hs
        have hl : loopF o sym op (g + 1) a s' = match o (skipP sym s').2 with | none => none | some (b, s2) => loopF o sym op g (putP ⟨op, 0, a, b⟩ s2).1 (putP ⟨op, 0, a, b⟩ s2).2 := by
          show (if _ then _ else _) = _
          rw [if_neg (by simp [skipP, hs])]
          cases o (skipP sym s').2 <;> rfl
        have HL2 := Lib.hid hl
        clear hl hs
        go_wp2_with fail
        refine hsk.mono ?_
        rintro e w2 ⟨rfl, b2, m2⟩
        have q2 := p'.rw.drop b2 m2
        have x2 := hO.keep _ _ v' _ _ _ x' p'.rw (m2.mono (fun _ _ e => .inl e))
        have hc2 := hO.calls w2 v' (skipP sym s').2 x2 q2.rw (by simp only [skipP]; omega) (by simp only [skipP]; omega)
        have hsh2 := hO.shr (skipP sym s').2
        cases ho2 : o (skipP sym s').2 with
        | none =>
          rw [ho2] at hc2
          have HL3 : Hid (res = none) := Lib.hid (by rw [← HL.out, HL2.out, ho2])
          clear ho2 hsh2
          go_wp2_with fail
          refine hc2.mono ?_
          rintro e w3 ⟨rfl, hm⟩
          rw [HL3.out]
          exact ⟨rfl, rfl, (p'.trans q2).bad hm⟩
        | some p =>
          obtain ⟨b, s2⟩ := p
          rw [ho2] at hc2
          have hsh3 := hsh2 _ _ ho2
          have HL3 : Hid (loopF o sym op g (putP ⟨op, 0, a, b⟩ s2).1 (putP ⟨op, 0, a, b⟩ s2).2 = res) := Lib.hid (by rw [← HL.out, HL2.out, ho2])
          clear ho2 hsh2
          simp only [skipP] at hsh3
          go_wp2_with fail
          refine hc2.mono ?_
          rintro e w3 ⟨rfl, v3, p3, x3⟩
          have hp := put_any base rb mb M w3 v3 s2.F s2.rest s2.u ⟨op, 0, a, b⟩ p3.rw (by omega)
          go_wp2_with fail
          refine hp.mono ?_
          rintro e w4 ⟨rfl, v4, p4⟩
          go_wp2_with fail
          have pp := ((p'.trans q2).trans p3).trans p4
          go_roundg g
          case measure => omega
          case rel =>
            refine ⟨_, (putP ⟨op, 0, a, b⟩ s2).2, v4, rfl, ?_, ?_, ?_, HL3, pp, hO.keep _ _ v3 _ _ _ x3 p3.rw p4.mod⟩
            · show s2.rest.length < g; omega
            · show s2.rest.length < N; omega
            · simp only [putP, List.length_append, List.length_cons, List.length_nil]; omega
end Go.Proofs.YtpekmohnjpbkgaaGreatDoor

namespace Go.Proofs.YtpekmohnjpbkgaaGreatDoor
open Go Go.RowKit
set_option maxHeartbeats 1000000
set_option maxRecDepth 100000
attribute [local go_sem ↓] Go.wp_at_zero Go.wp_at_succ

theorem Operand'.to {pn : Ending} {base rb mb : Nat} {M : List (List UInt8 × Int)} {fo : Nat} {fargs : Array Value} {o : PS → Option (Int × PS)} {N : Nat} (h : Operand' pn base rb mb M (fun _ => True) fo fargs o N) {X : World → Prop}
    (keep : ∀ W W' fv F rest u, X W → RW base rb mb M W fv F rest u → Mod (RS rb fv) W W' → X W') : Operand' pn base rb mb M X fo fargs o N := by
  refine ⟨h.enter, keep, fun W fv s hX hw hN hb => (h.calls W fv s trivial hw hN hb).mono ?_, h.shr⟩
  intro e w' hp
  unfold PPost at hp ⊢
  cases ho : o s with
  | none => rw [ho] at hp; exact hp
  | some p =>
    rw [ho] at hp
    obtain ⟨a, s'⟩ := p
    obtain ⟨he, fv', p, _⟩ := hp
    exact ⟨he, fv', p, keep _ _ fv _ _ _ hX hw p.mod⟩

def boxX (rb kb : Nat) (W : World) : Prop := Blk W kb #[.pointer (some ⟨rb, 0, none⟩)] 188
theorem boxX_keep {base rb mb kb : Nat} {M : List (List UInt8 × Int)} : ∀ (W W' : World) fv F rest u, boxX rb kb W → RW base rb mb M W fv F rest u → Mod (RS rb fv) W W' → boxX rb kb W' :=
  fun _ _ _ _ _ _ hX hw hm => hX.mod hm (hw.notS hX (by decide) (by decide))

theorem term_any (ch : List PanicEntry) (base rb mb kb : Nat) (M : List (List UInt8 × Int)) (fac : PS → Option (Int × PS)) (N : Nat) (hO : Operand' (.panicked ch) base rb mb M (fun _ => True) 192 #[.pointer (some ⟨rb, 0, none⟩)] fac N) :
    Operand' (.panicked ch) base rb mb M (boxX rb kb) 191 #[.pointer (some ⟨kb, 0, none⟩)] (termF fac) N := by
  refine ⟨fun _ _ => by kernel_rfl, boxX_keep, fun W fv s hX hw hN hb => ?_, exprF_shr hO.shr (by decide) _⟩
  have hmf : ∀ (fn : Fn) (first cap : Array Value) (w : World), (Instr.makeFunc fn first cap).run Tryz.prog w = .ok (.func fn first cap) w := fun _ _ _ _ => rfl
  have hx := expr_any ch base rb mb M (boxX rb kb) 192 #[.pointer (some ⟨rb, 0, none⟩)] #[] fac N (hO.to boxX_keep) sAnd (by decide) 4 W fv s hX hw hN hb
  have c0 := Blk.cell hX 0
  simp at c0
  have ht : termF fac s = exprF fac sAnd 4 s := rfl
  rw [ht]
  generalize exprF fac sAnd 4 s = r at *
  go_enter Tryz.func191, Tryz.ntmps191
  go_wp2_with fail
  refine hx.mono ?_
  intro e w1 hp
  cases r with
  | none =>
    obtain ⟨rfl, hm⟩ := hp
    exact ⟨rfl, rfl, hm⟩
  | some p =>
    obtain ⟨a, s'⟩ := p
    obtain ⟨rfl, fv', p, hX'⟩ := hp
    go_wp2_with fail
    go_ret
    exact ⟨rfl, fv', p, hX'⟩

theorem whole_any (ch : List PanicEntry) (base rb mb : Nat) (M : List (List UInt8 × Int)) (fac : PS → Option (Int × PS)) (N : Nat) (hO : Operand' (.panicked ch) base rb mb M (fun _ => True) 192 #[.pointer (some ⟨rb, 0, none⟩)] fac N)
    (W : World) (fv : Value) (s : PS) (hw : RW base rb mb M W fv s.F s.rest s.u) (hN : s.rest.length < N) (hb : s.F.length + s.rest.length ≤ 1099511627775) :
    Calls Tryz.prog 132 #[.pointer (some ⟨rb, 0, none⟩)] W (PPost (.panicked ch) base rb mb M (fun _ => True) W fv (wholeF fac s)) := by
  have hmf : ∀ (fn : Fn) (first cap : Array Value) (w : World), (Instr.makeFunc fn first cap).run Tryz.prog w = .ok (.func fn first cap) w := fun _ _ _ _ => rfl
  have hbel : Below W.heap.size W (W.alloc (.cells #[.pointer (some ⟨rb, 0, none⟩)] 188)) := (Below.refl _ _).alloc (Nat.le_refl _) _
  have hx := expr_any ch base rb mb M (boxX rb W.heap.size) 191 #[] #[.pointer (some ⟨W.heap.size, 0, none⟩)] (termF fac) N (term_any ch base rb mb W.heap.size M fac N hO) sOr (by decide) 5 _ fv s (Blk.new W _ _) (hw.below hbel) hN hb
  have ht : wholeF fac s = exprF (termF fac) sOr 5 s := rfl
  rw [ht]
  generalize exprF (termF fac) sOr 5 s = r at *
  go_enter Tryz.func132, Tryz.ntmps132
  go_wp2_with fail
  refine hx.mono ?_
  intro e w1 hp
  cases r with
  | none =>
    obtain ⟨rfl, hm⟩ := hp
    exact ⟨rfl, rfl, (Mod.of_below hbel).trans hm⟩
  | some p =>
    obtain ⟨a, s'⟩ := p
    obtain ⟨rfl, fv', p, hX'⟩ := hp
    go_wp2_with fail
    go_ret
    exact ⟨rfl, fv', RPost.after hbel p, trivial⟩
end Go.Proofs.YtpekmohnjpbkgaaGreatDoor

namespace Go.Proofs.YtpekmohnjpbkgaaGreatDoor
open Go Go.RowKit
set_option maxHeartbeats 1000000
set_option maxRecDepth 100000
attribute [local go_sem ↓] Go.wp_at_zero Go.wp_at_succ

theorem ext_str (l : List UInt8) (a b : Nat) : (⟨l.toArray⟩ : ByteArray).extract a b = ⟨((l.take b).drop a).toArray⟩ := by
  apply ByteArray.ext
  rw [ByteArray.data_extract]
  simp only [List.extract_toArray]
  congr 1
  simp [List.drop_take]

theorem factorF_word {M : List (List UInt8 × Int)} {f : Nat} {s : PS} (h1 : (skipP [33] s).1 = false) (h2 : (skipP [40] (skipP [33] s).2).1 = false) : factorF M (f + 1) s = wordF M (skipP [40] (skipP [33] s).2).2 := by
  simp only [factorF]
  rw [if_neg (by rw [h1]; decide), if_neg (by rw [h2]; decide)]
theorem factorF_paren {M : List (List UInt8 × Int)} {f : Nat} {s : PS} (h1 : (skipP [33] s).1 = false) (h2 : (skipP [40] (skipP [33] s).2).1 = true) : factorF M (f + 1) s = match wholeF (factorF M f) (skipP [40] (skipP [33] s).2).2 with
      | none => none
      | some (a, s1) => if (skipP [41] s1).1 = true then some (a, (skipP [41] s1).2) else none := by
  simp only [factorF]
  rw [if_neg (by rw [h1]; decide), if_pos h2]
  cases wholeF (factorF M f) (skipP [40] (skipP [33] s).2).2 <;> rfl
theorem factorF_not {M : List (List UInt8 × Int)} {f : Nat} {s : PS} (h1 : (skipP [33] s).1 = true) : factorF M (f + 1) s = match factorF M f (skipP [33] s).2 with
      | none => none
      | some (a, s1) => some (putP ⟨3, 0, a, 0⟩ s1) := by
  simp only [factorF]
  rw [if_pos h1]
  cases factorF M f (skipP [33] s).2 <;> rfl

/-- The panic of a string that is no expression. -/
def synCh : List PanicEntry := [{ v := .iface 30 (.int .i64 31), recovered := false }]

theorem RW.flag {base rb mb : Nat} {M : List (List UInt8 × Int)} {w : World} {fv : Value} {F : List FN} {rest : List UInt8} {u : Bool} (h : RW base rb mb M w fv F rest u) (u' : Bool) : RPost base rb mb M w fv F rest u' (w.setCell ⟨rb, 3, none⟩ (.bool u')) fv := by
  have hm := (Mod.refl (fun k => k = rb) w).setCell (p := ⟨rb, 3, none⟩) (.inl rfl) (.bool u')
  exact ⟨⟨by simpa using h.blk.setCell 3 (.bool u'), h.own.mod hm (fun g e => h.own.ne_blk e h.blk (by decide)), h.map.mod hm (fun e => h.map.ne_blk h.blk e), h.hr⟩, hm.mono (fun _ _ e => .inl e), fun g e => .inl e⟩

theorem factor_step (base rb mb : Nat) (M : List (List UInt8 × Int)) (f : Nat) (hO : Operand' (.panicked synCh) base rb mb M (fun _ => True) 192 #[.pointer (some ⟨rb, 0, none⟩)] (factorF M f) f)
    (W : World) (fv : Value) (s : PS) (hw : RW base rb mb M W fv s.F s.rest s.u) (hN : s.rest.length < f + 1) (hb : s.F.length + s.rest.length ≤ 1099511627775) :
    Calls Tryz.prog 192 #[.pointer (some ⟨rb, 0, none⟩)] W (PPost (.panicked synCh) base rb mb M (fun _ => True) W fv (factorF M (f + 1) s)) := by
  have hsk := skip_any rb mb s.rest [33] fv s.u W hw.blk
  generalize hres : factorF M (f + 1) s = res
  have HR := Lib.hid hres
  clear hres
  cases hs : (skipF [33] s.rest).1
  · rw [hs] at hsk
    have hq : (skipP [33] s).1 = false := hs
    have hle := skipF_le [33] s.rest
    clear hs
    go_enter Tryz.func192, Tryz.ntmps192
    go_wp2_with fail
    refine hsk.mono ?_
    rintro e w1 ⟨rfl, b1, m1⟩
    have q1 := hw.drop b1 m1
    have hsk2 := skip_any rb mb (skipF [33] s.rest).2 [40] fv s.u w1 q1.rw.blk
    cases hs2 : (skipF [40] (skipF [33] s.rest).2).1
    · rw [hs2] at hsk2
      go_wp2_with fail
      refine hsk2.mono ?_
      rintro e w2 ⟨rfl, b2, m2⟩
      have q2 := q1.rw.drop b2 m2
      have c1 := b2.cell 1
      simp at c1
      have hlt2 := b2.lt
      have hid := identifier_any (skipF [40] (skipF [33] s.rest).2).2 (by have := skipF_le [40] (skipF [33] s.rest).2; omega) w2
      by_cases h0 : identLen (skipF [40] (skipF [33] s.rest).2).2 = 0
      · rw [h0] at hid
        go_wp2_with fail
        refine hid.mono ?_
        rintro e w3 ⟨rfl, b3⟩
        go_wp2_with fail
        have HN : Hid (res = none) := Lib.hid (by
          rw [← HR.out]
          have e2 : (skipP [40] (skipP [33] s).2).1 = false := hs2
          rw [factorF_word hq e2]
          exact if_pos h0)
        rw [HN.out]
        exact ⟨rfl, rfl, (m1.mono (fun _ _ e => Or.inl e) |>.trans (m2.mono (fun _ _ e => Or.inl e))).trans (Mod.of_below b3)⟩
      · have e2 : (skipP [40] (skipP [33] s).2).1 = false := hs2
        have hres : res = wordF M { s with rest := (skipF [40] (skipF [33] s.rest).2).2 } := by
          rw [← HR.out, factorF_word hq e2]
          rfl
        have hle2 := skipF_le [40] (skipF [33] s.rest).2
        have hil := identLen_le (skipF [40] (skipF [33] s.rest).2).2
        generalize (skipF [40] (skipF [33] s.rest).2).2 = r2 at *
        simp only [wordF, if_neg h0] at hres
        have hx1 := ext_str r2 0 (identLen r2)
        have hx2 := ext_str r2 (identLen r2) r2.length
        rw [List.take_of_length_le (Nat.le_refl _)] at hx2
        simp only [List.drop_zero] at hx1
        have hdl : (r2.drop (identLen r2)).length + identLen r2 = r2.length := by simp; omega
        generalize identLen r2 = n at *
        generalize hwd : r2.take n = wd at *
        generalize r2.drop n = dr at *
        have h0i : ((n : Int) == 0) = false := by rw [beq_eq_false_iff_ne]; omega
        have HRS := Lib.hid hres
        have hbu := b2.cell 3
        have hbm := b2.cell 0
        simp at hbu hbm
        have hlk := q2.rw.map.lookup_ok (P := Tryz.prog) Tryz.underlying118 key_str (.int .i64 0) zero3 wd
        clear hres hs2 e2 HR hq h0 hwd
        go_wp2_with fail
        refine hid.mono ?_
        rintro e w3 ⟨rfl, b3⟩
        have q3 := (((RPost.refl hw).trans q1).trans q2).before b3
        have c3 := q3.rw.blk.cell 1
        have f3 := q3.rw.blk.frozen 1
        have hlt3 := q3.rw.blk.lt
        simp at c3
        have q4 := q3.rw.drop (rest' := dr) (by simpa using q3.rw.blk.setCell 1 (str dr)) ((Mod.refl (fun k => k = rb) w3).setCell (p := ⟨rb, 1, none⟩) (.inl rfl) (str dr))
        have q5 := q3.trans q4
        have d0 := q4.rw.blk.cell 0
        have d3 := q4.rw.blk.cell 3
        have g3 := q4.rw.blk.frozen 3
        have hlt4 := q4.rw.blk.lt
        simp at d0 d3
        have hlk := q4.rw.map.lookup_ok (P := Tryz.prog) Tryz.underlying118 key_str (.int .i64 0) zero3 wd
        have pt := put_any base rb mb M _ fv s.F dr s.u ⟨1, 0, 0, 0⟩ q4.rw (by omega)
        have pf := put_any base rb mb M _ fv s.F dr s.u ⟨0, 0, 0, 0⟩ q4.rw (by omega)
        by_cases hT : wd = sTrue
        · have HT : Hid (res = some (putP ⟨1, 0, 0, 0⟩ ⟨s.F, dr, s.u⟩)) := Lib.hid (by rw [HRS.out, if_pos hT])
          subst hT
          clear hlk
          simp only [sTrue] at *
          go_wp2_with fail
          refine pt.mono ?_
          rintro e w5 ⟨rfl, v5, p5⟩
          go_wp2_with fail
          go_ret
          rw [HT.out]
          exact ⟨rfl, v5, q5.trans p5, trivial⟩
        by_cases hF : wd = sFalse
        · have HT : Hid (res = some (putP ⟨0, 0, 0, 0⟩ ⟨s.F, dr, s.u⟩)) := Lib.hid (by rw [HRS.out, if_neg hT, if_pos hF])
          subst hF
          clear hlk hT
          simp only [sFalse] at *
          go_wp2_with fail
          refine pf.mono ?_
          rintro e w5 ⟨rfl, v5, p5⟩
          go_wp2_with fail
          go_ret
          rw [HT.out]
          exact ⟨rfl, v5, q5.trans p5, trivial⟩
        · have HT : Hid (res = some (putP ⟨2, (aget M wd).getD 0, 0, 0⟩ ⟨s.F, dr, s.u || !(aget M wd).isSome⟩)) := Lib.hid (by rw [HRS.out, if_neg hT, if_neg hF])
          have hT' : (wd == [116, 114, 117, 101]) = false := by rw [beq_eq_false_iff_ne]; exact hT
          have hF' : (wd == [102, 97, 108, 115, 101]) = false := by rw [beq_eq_false_iff_ne]; exact hF
          have e1 : ((aget M wd).map (Value.int .i64)).getD (.int .i64 0) = .int .i64 ((aget M wd).getD 0) := by cases aget M wd <;> rfl
          rw [e1] at hlk
          have HTn := Lib.hid hT
          have HFn := Lib.hid hF
          clear hT hF e1
          generalize (aget M wd).getD 0 = vv at *
          generalize (aget M wd).isSome = kk at *
          cases hu : s.u
          · rw [hu] at d3 q5 HT q4
            have q6 := q4.rw.flag (!kk)
            have pv := put_any base rb mb M _ fv s.F dr (!kk) ⟨2, vv, 0, 0⟩ q6.rw (by omega)
            clear hu
            go_wp2_with fail
            refine pv.mono ?_
            rintro e w5 ⟨rfl, v5, p5⟩
            go_wp2_with fail
            go_ret
            rw [HT.out]
            exact ⟨rfl, v5, (q5.trans q6).trans p5, trivial⟩
          · rw [hu] at d3 q5 HT q4
            have q6 := q4.rw.flag true
            have pv := put_any base rb mb M _ fv s.F dr true ⟨2, vv, 0, 0⟩ q6.rw (by omega)
            clear hu
            go_wp2_with fail
            refine pv.mono ?_
            rintro e w5 ⟨rfl, v5, p5⟩
            go_wp2_with fail
            go_ret
            rw [HT.out]
            exact ⟨rfl, v5, (q5.trans q6).trans p5, trivial⟩
    · rw [hs2] at hsk2
      have e2 : (skipP [40] (skipP [33] s).2).1 = true := hs2
      have hlt2 := skipF_lt hs2
      have hres : res = match wholeF (factorF M f) (skipP [40] (skipP [33] s).2).2 with
          | none => none
          | some (a, s1) => if (skipP [41] s1).1 = true then some (a, (skipP [41] s1).2) else none := by rw [← HR.out, factorF_paren hq e2]
      have HRS := Lib.hid hres
      clear hres hs2 e2 HR hq
      go_wp2_with fail
      refine hsk2.mono ?_
      rintro e w2 ⟨rfl, b2, m2⟩
      have q2 := q1.rw.drop b2 m2
      have wh := whole_any synCh base rb mb M (factorF M f) f hO w2 fv (skipP [40] (skipP [33] s).2).2 q2.rw (by simp only [skipP] at *; simp at hlt2; omega) (by simp only [skipP] at *; omega)
      have q12 := (RPost.refl hw).trans (q1.trans q2)
      cases hwf : wholeF (factorF M f) (skipP [40] (skipP [33] s).2).2 with
      | none =>
        rw [hwf] at wh
        have HN : Hid (res = none) := Lib.hid (by rw [HRS.out, hwf])
        clear hwf
        go_wp2_with fail
        refine wh.mono ?_
        rintro e w3 ⟨rfl, hm⟩
        have hr := HN.out
        subst hr
        exact ⟨rfl, rfl, q12.bad hm⟩
      | some p =>
        obtain ⟨a, s1⟩ := p
        rw [hwf] at wh
        have hres2 : res = if (skipP [41] s1).1 = true then some (a, (skipP [41] s1).2) else none := by rw [HRS.out, hwf]
        have HR2 := Lib.hid hres2
        clear hwf hres2 HRS
        go_wp2_with fail
        refine wh.mono ?_
        rintro e w3 ⟨rfl, v3, p3, -⟩
        have hsk3 := skip_any rb mb s1.rest [41] v3 s1.u w3 p3.rw.blk
        cases hs3 : (skipF [41] s1.rest).1
        · rw [hs3] at hsk3
          have HN : Hid (res = none) := Lib.hid (by rw [HR2.out, if_neg]; show ¬ (skipF [41] s1.rest).1 = true; rw [hs3]; decide)
          clear hs3
          go_wp2_with fail
          refine hsk3.mono ?_
          rintro e w4 ⟨rfl, b4, m4⟩
          have p4 := p3.rw.drop b4 m4
          go_wp2_with fail
          rw [HN.out]
          exact ⟨rfl, rfl, (q12.trans p3).bad p4.mod⟩
        · rw [hs3] at hsk3
          have HN : Hid (res = some (a, (skipP [41] s1).2)) := Lib.hid (by rw [HR2.out]; exact if_pos hs3)
          clear hs3
          go_wp2_with fail
          refine hsk3.mono ?_
          rintro e w4 ⟨rfl, b4, m4⟩
          have p4 := p3.rw.drop b4 m4
          go_wp2_with fail
          go_ret
          rw [HN.out]
          exact ⟨rfl, v3, (q12.trans p3).trans p4, trivial⟩
  · rw [hs] at hsk
    have hq : (skipP [33] s).1 = true := hs
    have hlt2 := skipF_lt hs
    have hres : res = match factorF M f (skipP [33] s).2 with
      | none => none
      | some (a, s1) => some (putP ⟨3, 0, a, 0⟩ s1) := by rw [← HR.out, factorF_not hq]
    have HRS := Lib.hid hres
    clear hres hs hq HR
    go_enter Tryz.func192, Tryz.ntmps192
    go_wp2_with fail
    refine hsk.mono ?_
    rintro e w1 ⟨rfl, b1, m1⟩
    have q1 := hw.drop b1 m1
    have fc := hO.calls w1 fv (skipP [33] s).2 trivial q1.rw (by simp only [skipP] at *; simp at hlt2; omega) (by simp only [skipP] at *; omega)
    have hsh := hO.shr (skipP [33] s).2
    cases hf : factorF M f (skipP [33] s).2 with
    | none =>
      rw [hf] at fc
      have HN : Hid (res = none) := Lib.hid (by rw [HRS.out, hf])
      clear hf hsh
      go_wp2_with fail
      refine fc.mono ?_
      rintro e w2 ⟨rfl, hm⟩
      have hr := HN.out
      subst hr
      exact ⟨rfl, rfl, q1.bad hm⟩
    | some p =>
      obtain ⟨a, s1⟩ := p
      rw [hf] at fc
      have hsh1 := hsh _ _ hf
      have HN : Hid (res = some (putP ⟨3, 0, a, 0⟩ s1)) := Lib.hid (by rw [HRS.out, hf])
      clear hf hsh
      simp only [skipP] at hsh1
      go_wp2_with fail
      refine fc.mono ?_
      rintro e w2 ⟨rfl, v2, p2, -⟩
      have pp := put_any base rb mb M w2 v2 s1.F s1.rest s1.u ⟨3, 0, a, 0⟩ p2.rw (by omega)
      go_wp2_with fail
      refine pp.mono ?_
      rintro e w3 ⟨rfl, v3, p3⟩
      go_wp2_with fail
      go_ret
      rw [HN.out]
      exact ⟨rfl, v3, (q1.trans p2).trans p3, trivial⟩

theorem factor_any (base rb mb : Nat) (M : List (List UInt8 × Int)) : ∀ f, Operand' (.panicked synCh) base rb mb M (fun _ => True) 192 #[.pointer (some ⟨rb, 0, none⟩)] (factorF M f) f := by
  intro f
  induction f with
  | zero => exact ⟨fun _ _ => by kernel_rfl, fun _ _ _ _ _ _ _ _ _ => trivial, fun W fv s _ _ h _ => by omega, factorF_shr M 0⟩
  | succ f ih => exact ⟨fun _ _ => by kernel_rfl, fun _ _ _ _ _ _ _ _ _ => trivial, fun W fv s _ hw hN hb => factor_step base rb mb M f ih W fv s hw hN hb, factorF_shr M (f + 1)⟩
end Go.Proofs.YtpekmohnjpbkgaaGreatDoor

namespace Go.Proofs.YtpekmohnjpbkgaaGreatDoor
open Go Go.RowKit
set_option maxHeartbeats 1000000
set_option maxRecDepth 100000
attribute [local go_sem ↓] Go.wp_at_zero Go.wp_at_succ

theorem parse1_idle (k : Nat) (w : World) :
    CallsD Tryz.prog 131 #[.pointer (some ⟨k, 0, none⟩), .pointer (some ⟨k + 1, 0, none⟩)] .returning w fun e u' w' => e = .returned (.tuple #[]) ∧ u' = .returning ∧ w' = w := by
  refine callsD_of_wpS Tryz.func131 rfl fun c₀ cs hu => ?_
  apply wpS_seq
  apply wpS_region
  simp [wpOpsS, go_sem, recoverD, hu, Tryz.ntmps131, Exit.thenS]
  refine wpS_of_wp ?_
  go_wp2_with fail
  cases c₀
  simp_all [bodyPostS, results, Tryz.results131]

theorem assert30 (code : Int) (w : World) : (Instr.typeAssert (.iface 30 (.int .i64 code)) 20 30 true).run Tryz.prog w = .ok (.tuple #[.int .i64 code, .bool true]) w := by kernel_rfl

theorem parse1_panicking (k : Nat) (code : Int) (v : Value) (x : Int) (older : List PanicEntry) (w : World) (h0 : Blk w k #[v] 113) (h1 : Blk w (k + 1) #[.int .i64 x] 30) :
    CallsD Tryz.prog 131 #[.pointer (some ⟨k, 0, none⟩), .pointer (some ⟨k + 1, 0, none⟩)] (.panicking ({ v := .iface 30 (.int .i64 code), recovered := false } :: older)) w fun e u' w' =>
      e = .returned (.tuple #[]) ∧ u' = .panicking ({ v := .iface 30 (.int .i64 code), recovered := true } :: older) ∧ w' = (w.setCell ⟨k, 0, none⟩ (.slice none 0 0)).setCell ⟨k + 1, 0, none⟩ (.int .i64 code) := by
  have hta := assert30 code
  have c0 := h0.cell 0
  have c1 := h1.cell 0
  have f0 := h0.frozen 0
  have f1 := h1.frozen 0
  simp at c0 c1
  refine callsD_of_wpS Tryz.func131 rfl fun c₀ cs hu => ?_
  apply wpS_seq
  apply wpS_region
  simp [wpOpsS, go_sem, recoverD, hu, Tryz.ntmps131, Exit.thenS]
  refine wpS_of_wp ?_
  have e : (#[Value.pointer (some { block := k, off := 0 }), Value.pointer (some { block := k + 1, off := 0 })] ++ ((Array.replicate 15 undef).setIfInBounds 3 (Value.iface 30 (Value.int IntKind.i64 code))).setIfInBounds 0 (Value.iface 30 (Value.int IntKind.i64 code))) = #[Value.pointer (some { block := k, off := 0 }), Value.pointer (some { block := k + 1, off := 0 }), Value.iface 30 (Value.int IntKind.i64 code), undef, undef, Value.iface 30 (Value.int IntKind.i64 code), undef, undef, undef, undef, undef, undef, undef, undef, undef, undef, undef] := rfl
  rw [e]
  clear e h0 h1
  go_wp2_with fail
  simp [bodyPostS, results, Tryz.results131]
end Go.Proofs.YtpekmohnjpbkgaaGreatDoor

namespace Go.Proofs.YtpekmohnjpbkgaaGreatDoor
open Go Go.RowKit
set_option maxHeartbeats 1000000
set_option maxRecDepth 100000
attribute [local go_sem ↓] Go.wp_at_zero Go.wp_at_succ

def namesOk (L : List (List UInt8)) : Bool := L.all okName && (decide ((numG L 0 []).length = L.length) && decide (L.length ≤ 64))
theorem NumPost.bad {w w' : World} {L : List (List UInt8)} {e : Ending} (h : NumPost w L e w') (hn : namesOk L = false) : ∃ mv, e = .returned (.tuple #[mv, .bool false]) ∧ Below w.heap.size w w' := by
  obtain ⟨hb, h⟩ := h
  by_cases ha : L.all okName = true
  · rw [if_pos ha] at h
    obtain ⟨bm, he, _⟩ := h
    have hf : (decide ((numG L 0 []).length = L.length) && decide (L.length ≤ 64)) = false := by
      unfold namesOk at hn
      rw [ha, Bool.true_and] at hn
      exact hn
    exact ⟨_, by rw [he, hf], hb⟩
  · rw [if_neg ha] at h
    exact ⟨_, h, hb⟩
theorem NumPost.good {w w' : World} {L : List (List UInt8)} {e : Ending} (h : NumPost w L e w') (hn : namesOk L = true) : ∃ bm, e = .returned (.tuple #[.map (some bm), .bool true]) ∧ MapAt str (Value.int .i64) w' bm (numG L 0 []) ∧ w.heap.size ≤ bm ∧ Below w.heap.size w w' := by
  obtain ⟨hb, h⟩ := h
  unfold namesOk at hn
  rw [Bool.and_eq_true] at hn
  rw [if_pos hn.1] at h
  obtain ⟨bm, he, hm, hl⟩ := h
  exact ⟨bm, by rw [he, hn.2], hm, hl, hb⟩

/-- What Parse answers: a formula and a code. -/
def parseF (L : List (List UInt8)) (l : List UInt8) : List FN × Int :=
  if namesOk L = false then ([], 1) else
  match wholeF (factorF (numG L 0 []) (l.length + 1)) ⟨[], l, false⟩ with
  | none => ([], 31)
  | some (_, s) =>
    if (skipP [] s).2.rest ≠ [] then ([], 31) else
    if s.u = true then ([], 3) else
    if 512 < s.F.length then ([], 2) else (s.F, 0)

theorem Own.cap_le {α : Type} {E : TypeId} {c : Nat} {enc : α → List Value} {base : Nat} {w : World} {a : Option Addr} {cap : Nat} {L : List α} (h : Own E c enc base w (.slice a L.length cap) L) : L.length ≤ cap := by
  rcases h.2 with ⟨h1, h2⟩ | ⟨g, cap', cur, hv, _, _, hc, _⟩
  · rw [h2]; exact Nat.zero_le _
  · cases hv
    exact hc
/-- A formula and a code that a call has made. -/
def FPost (w : World) (F : List FN) (c : Int) (e : Ending) (w' : World) : Prop :=
  ∃ a cap, e = .returned (.tuple #[.slice a F.length cap, .int .i64 c]) ∧ F.length ≤ cap ∧ Rd w' a (rowCells FN.cells F) ∧ (∀ b o, a = some ⟨b, o, none⟩ → w.heap.size ≤ b) ∧ Below w.heap.size w w'

theorem two_writes {w w1 : World} {i j : Nat} (hb : Below w.heap.size w w1) (hi : w.heap.size ≤ i) (hj : w.heap.size ≤ j) (u v : Value) : Below w.heap.size w ((w1.setCell ⟨i, 0, none⟩ u).setCell ⟨j, 0, none⟩ v) :=
  Mod.below (S := fun k => w.heap.size ≤ k) (((Mod.of_below hb).setCell (p := ⟨i, 0, none⟩) (.inl hi) u).setCell (p := ⟨j, 0, none⟩) (.inl hj) v) (Nat.le_refl _) (fun k hk h => by omega)

theorem parse_any (L : List (List UInt8)) (hs : ∀ s ∈ L, s.length ≤ 1099511627776) (hl : L.length ≤ 1099511627776) (a : Option Addr) (cap : Nat) (l : List UInt8) (hl2 : l.length ≤ 1099511627775) (w : World) (hr : Rd w a (L.map str)) :
    Calls Tryz.prog 70 #[.slice a L.length cap, str l] w (FPost w (parseF L l).1 (parseF L l).2) := by
  have hmf : ∀ (fn : Fn) (first cap : Array Value) (w : World), (Instr.makeFunc fn first cap).run Tryz.prog w = .ok (.func fn first cap) w := fun _ _ _ _ => rfl
  have k0 := (Blk.new w #[.slice none 0 0] 113).alloc (.cells #[.int .i64 0] 30)
  have k1 := Blk.new (w.alloc (.cells #[.slice none 0 0] 113)) #[.int .i64 0] 30
  have hb : Below w.heap.size w ((w.alloc (.cells #[.slice none 0 0] 113)).alloc (.cells #[.int .i64 0] 30)) :=
    Mod.below (S := fun k => w.heap.size ≤ k) (((Mod.refl _ _).alloc _).alloc _) (Nat.le_refl _) (fun k hk h => by omega)
  have hn := numbers_any L hs hl a cap _ (hr.below hb)
  simp only [World.size_alloc] at k1
  cases hok : namesOk L
  · have hp : parseF L l = ([], 1) := by simp [parseF, hok]
    rw [hp]
    go_enter_defers Tryz.func70, Tryz.ntmps70
    go_wp2_with fail
    refine hn.mono ?_
    intro e w1 hnp
    obtain ⟨mv, rfl, b1⟩ := hnp.bad hok
    have g0 := k0.mod (Mod.of_below (S := fun _ => False) b1) (fun h => h)
    have g1 := k1.mod (Mod.of_below (S := fun _ => False) b1) (fun h => h)
    have c0 := g0.cell 0
    have c1 := g1.cell 0
    have f0 := g0.frozen 0
    have f1 := g1.frozen 0
    have l0 := g0.lt
    have l1 := g1.lt
    simp at c0 c1
    clear hnp hn hok hp
    go_wp2_with fail
    simp [bodyPostD, Leaves, results, Tryz.results70, go_sem, c0, c1]
    exact ⟨none, 0, rfl, Nat.le_refl _, Rd.nil _ _, (fun b o e => by cases e), two_writes (hb.trans (b1.mono (by simp; omega))) (Nat.le_refl _) (Nat.le_succ _) _ _⟩
  · generalize hp : parseF L l = p
    have HP := Lib.hid hp
    clear hp
    go_enter_defers Tryz.func70, Tryz.ntmps70
    go_wp2_with fail
    refine hn.mono ?_
    intro e w1 hnp
    obtain ⟨bm, rfl, hm, hbm, b1⟩ := hnp.good hok
    have g0 := k0.mod (Mod.of_below (S := fun _ => False) b1) (fun h => h)
    have g1 := k1.mod (Mod.of_below (S := fun _ => False) b1) (fun h => h)
    have l0 := g0.lt
    have l1 := g1.lt
    have bel1 : Below w.heap.size w w1 := hb.trans (b1.mono (by simp; omega))
    have hbel : Below w1.heap.size w1 (w1.alloc (.cells #[.map (some bm), str l, .slice none 0 0, .bool false] 190)) := (Below.refl _ _).alloc (Nat.le_refl _) _
    have hw : RW w1.heap.size w1.heap.size bm (numG L 0 []) (w1.alloc (.cells #[.map (some bm), str l, .slice none 0 0, .bool false] 190)) (.slice none 0 0) [] l false :=
      ⟨Blk.new _ _ _, Own.nil _ _, hm.alloc _, Nat.le_refl _⟩
    have wh := whole_any synCh w1.heap.size w1.heap.size bm (numG L 0 []) (factorF (numG L 0 []) (l.length + 1)) (l.length + 1) (factor_any _ _ _ _ _) _ (.slice none 0 0) ⟨[], l, false⟩ hw (by simp) (by simpa using hl2)
    cases hwf : wholeF (factorF (numG L 0 []) (l.length + 1)) ⟨[], l, false⟩ with
    | none =>
      rw [hwf] at wh
      have HP2 : Hid (p = ([], 31)) := Lib.hid (by rw [← HP.out]; simp [parseF, hok, hwf])
      clear hwf hnp hn hok HP
      go_wp2_with fail
      refine wh.mono ?_
      rintro e w2 ⟨rfl, hmod⟩
      have nS : ∀ k, k < w1.heap.size → ¬ RS w1.heap.size (.slice none 0 0) k := by
        rintro k hk (e | e)
        · omega
        · cases e
      have r0 := (g0.alloc (.cells #[.map (some bm), str l, .slice none 0 0, .bool false] 190)).mod hmod (nS _ l0)
      have r1 := (g1.alloc (.cells #[.map (some bm), str l, .slice none 0 0, .bool false] 190)).mod hmod (nS _ l1)
      have bel2 : Below w.heap.size w w2 := bel1.trans (Mod.below (B := w.heap.size) ((Mod.of_below hbel).trans hmod) bel1.size (fun k hk => nS k (by omega)))
      have hr := HP2.out
      subst hr
      refine leaves_cons (f := 131) (args := #[.pointer (some ⟨w.heap.size, 0, none⟩), .pointer (some ⟨w.heap.size + 1, 0, none⟩)]) (by simp) (by simp [go_sem]) ?_
      refine (parse1_panicking w.heap.size 31 _ _ [] w2 r0 r1).mono ?_
      rintro e u' w3 ⟨rfl, rfl, rfl⟩
      have c0 := r0.cell 0
      have c1 := r1.cell 0
      simp at c0 c1
      simp [Leaves, settle, results, Tryz.results70, go_sem, c0, c1]
      exact ⟨none, 0, rfl, Nat.le_refl _, Rd.nil _ _, (fun b o e => by cases e), two_writes bel2 (Nat.le_refl _) (Nat.le_succ _) _ _⟩
    | some q =>
      obtain ⟨b0, s⟩ := q
      rw [hwf] at wh
      have hsh := exprF_shr (exprF_shr (factorF_shr (numG L 0 []) (l.length + 1)) (sym := sAnd) (by decide) 4) (sym := sOr) (by decide) 5 _ _ _ hwf
      have hp2 : p = if (skipP [] s).2.rest ≠ [] then ([], 31) else if s.u = true then ([], 3) else if 512 < s.F.length then ([], 2) else (s.F, 0) := by
        rw [← HP.out]
        unfold parseF
        rw [if_neg (by rw [hok]; decide), hwf]
      have HP2 := Lib.hid hp2
      simp only [List.length_nil, Nat.zero_add] at hsh
      clear hwf hnp hn hok HP hp2
      go_wp2_with fail
      refine wh.mono ?_
      rintro e w2 ⟨rfl, v2, p2, -⟩
      have hsk := skip_any w1.heap.size bm s.rest [] v2 s.u w2 p2.rw.blk
      generalize (skipF [] s.rest).1 = sb at hsk
      have hrest : (skipP [] s).2.rest = (skipF [] s.rest).2 := rfl
      rw [hrest] at HP2
      generalize (skipF [] s.rest).2 = r3 at *
      go_wp2_with fail
      refine hsk.mono ?_
      rintro e w3 ⟨rfl, b3, m3⟩
      have p3 := p2.trans (p2.rw.drop b3 m3)
      have nS : ∀ k, k < w1.heap.size → ¬ RS w1.heap.size (.slice none 0 0) k := by
        rintro k hk (e | e)
        · omega
        · cases e
      have r0 := (g0.alloc (.cells #[.map (some bm), str l, .slice none 0 0, .bool false] 190)).mod p3.mod (nS _ l0)
      have r1 := (g1.alloc (.cells #[.map (some bm), str l, .slice none 0 0, .bool false] 190)).mod p3.mod (nS _ l1)
      have bel3 : Below w.heap.size w w3 := bel1.trans (Mod.below (B := w.heap.size) ((Mod.of_below hbel).trans p3.mod) bel1.size (fun k hk => nS k (by omega)))
      have d1 := b3.cell 1
      have d2 := b3.cell 2
      have d3 := b3.cell 3
      have hl3 := b3.lt
      simp at d1 d2 d3
      cases r3 with
      | cons y r3 =>
        have hr : p = ([], 31) := by rw [HP2.out, if_pos (by simp)]
        subst hr
        clear HP2
        go_wp2_with fail
        refine leaves_cons (f := 131) (args := #[.pointer (some ⟨w.heap.size, 0, none⟩), .pointer (some ⟨w.heap.size + 1, 0, none⟩)]) (by simp) (by simp [go_sem]) ?_
        refine (parse1_panicking w.heap.size 31 _ _ [] w3 r0 r1).mono ?_
        rintro e u' w4 ⟨rfl, rfl, rfl⟩
        have c0 := r0.cell 0
        have c1 := r1.cell 0
        simp at c0 c1
        simp [Leaves, settle, results, Tryz.results70, go_sem, c0, c1]
        exact ⟨none, 0, rfl, Nat.le_refl _, Rd.nil _ _, (fun b o e => by cases e), two_writes bel3 (Nat.le_refl _) (Nat.le_succ _) _ _⟩
      | nil =>
        obtain ⟨aF, capF, rfl⟩ := p3.rw.own.form
        cases hu : s.u
        · rw [hu] at d3
          by_cases h5 : 512 < s.F.length
          · have hr : p = ([], 2) := by rw [HP2.out]; simp [hu, h5]
            subst hr
            clear HP2 hu
            have h5i : ((s.F.length : Int) > 512) = True := by simp; omega
            go_wp2_with fail
            refine leaves_cons (f := 131) (args := #[.pointer (some ⟨w.heap.size, 0, none⟩), .pointer (some ⟨w.heap.size + 1, 0, none⟩)]) (by simp) (by simp [go_sem]) ?_
            refine (parse1_panicking w.heap.size 2 _ _ [] w3 r0 r1).mono ?_
            rintro e u' w4 ⟨rfl, rfl, rfl⟩
            have c0 := r0.cell 0
            have c1 := r1.cell 0
            simp at c0 c1
            simp [Leaves, settle, results, Tryz.results70, go_sem, c0, c1]
            exact ⟨none, 0, rfl, Nat.le_refl _, Rd.nil _ _, (fun b o e => by cases e), two_writes bel3 (Nat.le_refl _) (Nat.le_succ _) _ _⟩
          · have hr : p = (s.F, 0) := by rw [HP2.out]; simp [hu, h5]
            subst hr
            clear HP2 hu
            have h5i : ((s.F.length : Int) > 512) = False := by simp; omega
            have c0 := r0.cell 0
            have c1 := r1.cell 0
            have f0 := r0.frozen 0
            have f1 := r1.frozen 0
            have q0 := r0.lt
            have q1 := r1.lt
            simp at c0 c1
            go_wp2_with fail
            refine leaves_cons (f := 131) (args := #[.pointer (some ⟨w.heap.size, 0, none⟩), .pointer (some ⟨w.heap.size + 1, 0, none⟩)]) (by simp) (by simp [go_sem]) ?_
            refine (parse1_idle w.heap.size _).mono ?_
            rintro e u' w4 ⟨rfl, rfl, rfl⟩
            simp [Leaves, settle, results, Tryz.results70, go_sem, c0, c1]
            have hge : ∀ b o, aF = some ⟨b, o, none⟩ → w1.heap.size ≤ b := fun b o e => (p3.rw.own.lt (g := b) (by rw [e]; rfl)).1
            refine ⟨aF, capF, rfl, p3.rw.own.cap_le, ?_, fun b o e => ?_, two_writes bel3 (Nat.le_refl _) (Nat.le_succ _) _ _⟩
            · refine p3.rw.own.rd.mod (S := fun k => k = w.heap.size ∨ k = w.heap.size + 1) (((Mod.refl (fun k => k = w.heap.size ∨ k = w.heap.size + 1) w3).setCell (p := ⟨w.heap.size, 0, none⟩) (.inl (.inl rfl)) _).setCell (p := ⟨w.heap.size + 1, 0, none⟩) (.inl (.inr rfl)) _) (fun b o e _ => ?_)
              have := hge b o e
              omega
            · have := hge b o e
              omega
        · rw [hu] at d3
          have hr : p = ([], 3) := by rw [HP2.out]; simp [hu]
          subst hr
          clear HP2 hu
          go_wp2_with fail
          refine leaves_cons (f := 131) (args := #[.pointer (some ⟨w.heap.size, 0, none⟩), .pointer (some ⟨w.heap.size + 1, 0, none⟩)]) (by simp) (by simp [go_sem]) ?_
          refine (parse1_panicking w.heap.size 3 _ _ [] w3 r0 r1).mono ?_
          rintro e u' w4 ⟨rfl, rfl, rfl⟩
          have c0 := r0.cell 0
          have c1 := r1.cell 0
          simp at c0 c1
          simp [Leaves, settle, results, Tryz.results70, go_sem, c0, c1]
          exact ⟨none, 0, rfl, Nat.le_refl _, Rd.nil _ _, (fun b o e => by cases e), two_writes bel3 (Nat.le_refl _) (Nat.le_succ _) _ _⟩
end Go.Proofs.YtpekmohnjpbkgaaGreatDoor

namespace Go.Proofs.YtpekmohnjpbkgaaGreatDoor
open Go Go.RowKit
set_option maxHeartbeats 1000000
set_option maxRecDepth 100000
attribute [local go_sem ↓] Go.wp_at_zero Go.wp_at_succ

def arityF (n : FN) (i : Int) : Int :=
  if n.op = 0 ∨ n.op = 1 then (if n.var = 0 ∧ n.a = 0 ∧ n.b = 0 then 0 else -1)
  else if n.op = 2 then (if 0 ≤ n.var ∧ n.var < 64 ∧ n.a = 0 ∧ n.b = 0 then 0 else -1)
  else if n.op = 3 then (if n.var = 0 ∧ n.b = 0 ∧ 0 ≤ n.a ∧ n.a < i then 1 else -1)
  else if n.op = 4 ∨ n.op = 5 then (if n.var = 0 ∧ 0 ≤ n.a ∧ 0 ≤ n.b ∧ n.a < i ∧ n.b < i then 2 else -1)
  else -1

theorem run_neq_fn (x y : FN) (w : World) : (binOp .neq 309 (.agg #[.int .i64 x.op, .int .i64 x.var, .int .i64 x.a, .int .i64 x.b]) (.agg #[.int .i64 y.op, .int .i64 y.var, .int .i64 y.a, .int .i64 y.b])).run Tryz.prog w = .ok (.bool (!decide (x = y))) w := by
  have h : (Op.equal 309 (.agg #[.int .i64 x.op, .int .i64 x.var, .int .i64 x.a, .int .i64 x.b]) (.agg #[.int .i64 y.op, .int .i64 y.var, .int .i64 y.a, .int .i64 y.b])).run Tryz.prog w = .ok (decide (x = y)) w := by
    have h : (Op.equal 309 (.agg #[.int .i64 x.op, .int .i64 x.var, .int .i64 x.a, .int .i64 x.b]) (.agg #[.int .i64 y.op, .int .i64 y.var, .int .i64 y.a, .int .i64 y.b])).run Tryz.prog w = .ok (x.op == y.op && (x.var == y.var && (x.a == y.a && x.b == y.b))) w := by
      simp only [Op.equal, Op.maxDepth]
      simp [go_sem]
      by_cases h1 : x.op = y.op <;> by_cases h2 : x.var = y.var <;> by_cases h3 : x.a = y.a <;> by_cases h4 : x.b = y.b <;> simp [h1, h2, h3, h4]
    rw [h]
    refine congrArg (fun r => Result.ok r w) ?_
    cases x; cases y
    rw [Bool.eq_iff_iff]; simp
  simp only [binOp, Sem.run_bind, h, Result.andThen_ok, Sem.run_pure]


theorem arity_const (op : Int) (ho : op = 0 ∨ op = 1) (var a b i : Int) (w : World) :
    Calls Tryz.prog 273 #[.agg #[.int .i64 op, .int .i64 var, .int .i64 a, .int .i64 b], .int .i64 i] w fun e w' => e = .returned (.int .i64 (arityF ⟨op, var, a, b⟩ i)) ∧ Below w.heap.size w w' := by
  have hq := run_neq_fn ⟨op, var, a, b⟩ ⟨op, 0, 0, 0⟩
  simp only at hq
  by_cases hv : var = 0 ∧ a = 0 ∧ b = 0
  · obtain ⟨rfl, rfl, rfl⟩ := hv
    rcases ho with rfl | rfl
    all_goals
      go_enter Tryz.func273, Tryz.ntmps273
      go_wp2
      go_ret
      exact ⟨rfl, ((Below.refl _ _).alloc (Nat.le_refl _) _).alloc (by simp) _⟩
  · have hd : decide ((⟨op, var, a, b⟩ : FN) = ⟨op, 0, 0, 0⟩) = false := by simp; intro h1 h2 h3; exact hv ⟨h1, h2, h3⟩
    rw [hd] at hq
    have ha : arityF ⟨op, var, a, b⟩ i = -1 := by simp only [arityF]; rw [if_pos ho, if_neg hv]
    rw [ha]
    rcases ho with rfl | rfl
    all_goals
      go_enter Tryz.func273, Tryz.ntmps273
      go_wp2
      go_ret
      exact ⟨rfl, ((Below.refl _ _).alloc (Nat.le_refl _) _).alloc (by simp) _⟩

theorem two_below (w : World) (o p : Obj) : Below w.heap.size w ((w.alloc o).alloc p) := ((Below.refl _ _).alloc (Nat.le_refl _) _).alloc (by simp) _

theorem arity_var (var a b i : Int) (w : World) :
    Calls Tryz.prog 273 #[.agg #[.int .i64 2, .int .i64 var, .int .i64 a, .int .i64 b], .int .i64 i] w fun e w' => e = .returned (.int .i64 (arityF ⟨2, var, a, b⟩ i)) ∧ Below w.heap.size w w' := by
  have hq := run_neq_fn ⟨2, var, a, b⟩ ⟨2, var, 0, 0⟩
  simp only at hq
  have hA : arityF ⟨2, var, a, b⟩ i = if 0 ≤ var ∧ var < 64 ∧ a = 0 ∧ b = 0 then 0 else -1 := rfl
  by_cases h1 : var < 0
  · rw [hA, if_neg (by omega)]
    clear hA hq
    go_enter Tryz.func273, Tryz.ntmps273
    go_wp2
    go_ret
    exact ⟨rfl, two_below _ _ _⟩
  by_cases h2 : 64 ≤ var
  · rw [hA, if_neg (by omega)]
    clear hA hq
    go_enter Tryz.func273, Tryz.ntmps273
    go_wp2
    go_ret
    exact ⟨rfl, two_below _ _ _⟩
  by_cases hv : a = 0 ∧ b = 0
  · obtain ⟨rfl, rfl⟩ := hv
    rw [hA, if_pos (by omega)]
    have hd : decide ((⟨2, var, 0, 0⟩ : FN) = ⟨2, var, 0, 0⟩) = true := by simp
    rw [hd] at hq
    clear hA hd
    go_enter Tryz.func273, Tryz.ntmps273
    go_wp2
    go_ret
    exact ⟨rfl, two_below _ _ _⟩
  · rw [hA, if_neg (by omega)]
    have hd : decide ((⟨2, var, a, b⟩ : FN) = ⟨2, var, 0, 0⟩) = false := by simp; intro h1 h2; exact hv ⟨h1, h2⟩
    rw [hd] at hq
    clear hA hd hv
    go_enter Tryz.func273, Tryz.ntmps273
    go_wp2
    go_ret
    exact ⟨rfl, two_below _ _ _⟩

theorem arity_not (var a b i : Int) (w : World) :
    Calls Tryz.prog 273 #[.agg #[.int .i64 3, .int .i64 var, .int .i64 a, .int .i64 b], .int .i64 i] w fun e w' => e = .returned (.int .i64 (arityF ⟨3, var, a, b⟩ i)) ∧ Below w.heap.size w w' := by
  have hq := run_neq_fn ⟨3, var, a, b⟩ ⟨3, 0, a, 0⟩
  simp only at hq
  have hA : arityF ⟨3, var, a, b⟩ i = if var = 0 ∧ b = 0 ∧ 0 ≤ a ∧ a < i then 1 else -1 := rfl
  by_cases hv : var = 0 ∧ b = 0
  · obtain ⟨rfl, rfl⟩ := hv
    have hd : decide ((⟨3, 0, a, 0⟩ : FN) = ⟨3, 0, a, 0⟩) = true := by simp
    rw [hd] at hq
    clear hd
    by_cases h1 : a < 0
    · rw [hA, if_neg (by omega)]
      clear hA
      go_enter Tryz.func273, Tryz.ntmps273
      go_wp2
      go_ret
      exact ⟨rfl, two_below _ _ _⟩
    by_cases h2 : i ≤ a
    · rw [hA, if_neg (by omega)]
      clear hA
      go_enter Tryz.func273, Tryz.ntmps273
      go_wp2
      go_ret
      exact ⟨rfl, two_below _ _ _⟩
    · rw [hA, if_pos (by omega)]
      clear hA
      go_enter Tryz.func273, Tryz.ntmps273
      go_wp2
      go_ret
      exact ⟨rfl, two_below _ _ _⟩
  · rw [hA, if_neg (by omega)]
    have hd : decide ((⟨3, var, a, b⟩ : FN) = ⟨3, 0, a, 0⟩) = false := by simp; intro h1 h2; exact hv ⟨h1, h2⟩
    rw [hd] at hq
    clear hA hd hv
    go_enter Tryz.func273, Tryz.ntmps273
    go_wp2
    go_ret
    exact ⟨rfl, two_below _ _ _⟩

theorem arity_two (op : Int) (ho : op = 4 ∨ op = 5) (var a b i : Int) (w : World) :
    Calls Tryz.prog 273 #[.agg #[.int .i64 op, .int .i64 var, .int .i64 a, .int .i64 b], .int .i64 i] w fun e w' => e = .returned (.int .i64 (arityF ⟨op, var, a, b⟩ i)) ∧ Below w.heap.size w w' := by
  have hq := run_neq_fn ⟨op, var, a, b⟩ ⟨op, 0, a, b⟩
  simp only at hq
  have hA : arityF ⟨op, var, a, b⟩ i = if var = 0 ∧ 0 ≤ a ∧ 0 ≤ b ∧ a < i ∧ b < i then 2 else -1 := by rcases ho with rfl | rfl <;> rfl
  by_cases hv : var = 0
  · subst hv
    have hd : decide ((⟨op, 0, a, b⟩ : FN) = ⟨op, 0, a, b⟩) = true := by simp
    rw [hd] at hq
    clear hd
    by_cases h1 : a < 0
    · rw [hA, if_neg (by omega)]
      clear hA
      rcases ho with rfl | rfl
      all_goals
        go_enter Tryz.func273, Tryz.ntmps273
        go_wp2
        go_ret
        exact ⟨rfl, two_below _ _ _⟩
    by_cases h2 : b < 0
    · rw [hA, if_neg (by omega)]
      clear hA
      rcases ho with rfl | rfl
      all_goals
        go_enter Tryz.func273, Tryz.ntmps273
        go_wp2
        go_ret
        exact ⟨rfl, two_below _ _ _⟩
    by_cases h3 : i ≤ max a b
    · rw [hA, if_neg (by omega)]
      clear hA
      rcases ho with rfl | rfl
      all_goals
        go_enter Tryz.func273, Tryz.ntmps273
        go_wp2
        all_goals
          first | (exfalso; omega) | (go_ret; exact ⟨rfl, two_below _ _ _⟩)
    · rw [hA, if_pos (by omega)]
      clear hA
      rcases ho with rfl | rfl
      all_goals
        go_enter Tryz.func273, Tryz.ntmps273
        go_wp2
        all_goals
          first | (exfalso; omega) | (go_ret; exact ⟨rfl, two_below _ _ _⟩)
  · rw [hA, if_neg (by omega)]
    have hd : decide ((⟨op, var, a, b⟩ : FN) = ⟨op, 0, a, b⟩) = false := by simp; exact hv
    rw [hd] at hq
    clear hA hd hv
    rcases ho with rfl | rfl
    all_goals
      go_enter Tryz.func273, Tryz.ntmps273
      go_wp2
      go_ret
      exact ⟨rfl, two_below _ _ _⟩

theorem arity_other (op var a b i : Int) (h0 : op ≠ 0) (h1 : op ≠ 1) (h2 : op ≠ 2) (h3 : op ≠ 3) (h4 : op ≠ 4) (h5 : op ≠ 5) (w : World) :
    Calls Tryz.prog 273 #[.agg #[.int .i64 op, .int .i64 var, .int .i64 a, .int .i64 b], .int .i64 i] w fun e w' => e = .returned (.int .i64 (arityF ⟨op, var, a, b⟩ i)) ∧ Below w.heap.size w w' := by
  have hA : arityF ⟨op, var, a, b⟩ i = -1 := by simp [arityF, h0, h1, h2, h3, h4, h5]
  rw [hA]
  have e0 : (op == 0) = false := by simp [h0]
  have e1 : (op == 1) = false := by simp [h1]
  have e2 : (op == 2) = false := by simp [h2]
  have e3 : (op == 3) = false := by simp [h3]
  have e4 : (op == 4) = false := by simp [h4]
  have e5 : (op == 5) = false := by simp [h5]
  clear hA h0 h1 h2 h3 h4 h5
  go_enter Tryz.func273, Tryz.ntmps273
  go_wp2
  go_ret
  exact ⟨rfl, two_below _ _ _⟩

theorem arity_any (n : FN) (i : Int) (w : World) :
    Calls Tryz.prog 273 #[.agg #[.int .i64 n.op, .int .i64 n.var, .int .i64 n.a, .int .i64 n.b], .int .i64 i] w fun e w' => e = .returned (.int .i64 (arityF n i)) ∧ Below w.heap.size w w' := by
  obtain ⟨op, var, a, b⟩ := n
  by_cases h0 : op = 0 ∨ op = 1
  · exact arity_const op h0 var a b i w
  by_cases h2 : op = 2
  · subst h2; exact arity_var var a b i w
  by_cases h3 : op = 3
  · subst h3; exact arity_not var a b i w
  by_cases h4 : op = 4 ∨ op = 5
  · exact arity_two op h4 var a b i w
  · exact arity_other op var a b i (fun h => h0 (.inl h)) (fun h => h0 (.inr h)) h2 h3 (fun h => h4 (.inl h)) (fun h => h4 (.inr h)) w
end Go.Proofs.YtpekmohnjpbkgaaGreatDoor
