/- Files as lists of lines: the plain reader, line by line. source.Dead. The chapter's example: what the plain reader and the plain questions answer. -/
import Derived.Test.YtpekmohnjpbkgaaGreatDoorGroupK
import Derived.Test.YtpekmohnjpbkgaaGreatDoorGroupL
namespace Go.Proofs.YtpekmohnjpbkgaaGreatDoor
open Go Go.RowKit

/-- The text of a list of lines. -/
def flat : List (List UInt8) → List UInt8
  | [] => []
  | s :: l => s ++ 10 :: flat l
theorem flat_append (l m : List (List UInt8)) : flat (l ++ m) = flat l ++ flat m := by
  induction l with
  | nil => rfl
  | cons s l ih => simp [flat, ih]
theorem flat_last : ∀ (l : List (List UInt8)), l ≠ [] → (flat l).getLast? = some 10
  | [], h => absurd rfl h
  | [s], _ => by simp [flat]
  | s :: t :: l, _ => by
    have := flat_last (t :: l) (by simp)
    rw [flat, List.getLast?_append, List.getLast?_cons, this]
    rfl
theorem flat_nil_iff (l : List (List UInt8)) : flat l = [] ↔ l = [] := by
  cases l with
  | nil => simp [flat]
  | cons s l => simp [flat]

theorem lineOf_flat {s : List UInt8} (h : (10 : UInt8) ∉ s) (r : List UInt8) : lineOf (s ++ 10 :: r) = s := by
  unfold lineOf
  induction s with
  | nil => simp
  | cons b s ih =>
    simp only [List.mem_cons, not_or] at h
    have hb : (b != 10) = true := by rw [bne_iff_ne]; exact fun e => h.1 e.symm
    rw [List.cons_append, List.takeWhile_cons, if_pos hb, ih h.2]

/-- A line of a file. -/
noncomputable def stepL (L : List (List UInt8)) (M : List (List UInt8 × Int)) (rec : Int → Dg → St → Res St) (s : List UInt8) (ls : LS) : Res LS :=
  if headOf s = sIf ∧ spacedOf s = true then
    match setF L (restOf s) { ls.st with line := ls.st.line + 1 } with
    | .error p => .error p
    | .ok d =>
      match deepF { ls.st with line := ls.st.line + 1 } with
      | .error p => .error p
      | .ok st2 => .ok ⟨{ st2 with fresh := true }, ls.opens ++ [⟨ls.k, andD ls.k (notD d), false, ls.st.line + 1⟩], andD ls.k d, ls.pos + s.length + 1⟩
  else if headOf s = sInclude ∧ spacedOf s = true then
    match numF M (restOf s) { ls.st with line := ls.st.line + 1 } with
    | .error p => .error p
    | .ok m =>
      match deepF { ls.st with line := ls.st.line + 1 } with
      | .error p => .error p
      | .ok st2 =>
        match rec m ls.k st2 with
        | .error p => .error p
        | .ok st3 => .ok ⟨{ st3 with depth := st3.depth - 1, fresh := true }, ls.opens, ls.k, ls.pos + s.length + 1⟩
  else if (headOf s = sElif ∧ spacedOf s = true) ∨ s = sElse ∨ s = sEnd then
    match ls.opens.getLast? with
    | none => St.fail { ls.st with line := ls.st.line + 1 } 72
    | some x =>
      if s = sEnd then .ok ⟨{ ls.st with line := ls.st.line + 1, depth := ls.st.depth - 1, fresh := true }, ls.opens.dropLast, x.outer, ls.pos + s.length + 1⟩ else
      match branchF L x (decide (s = sElse)) (restOf s) { ls.st with line := ls.st.line + 1 } with
      | .error p => .error p
      | .ok (x', k') => .ok ⟨{ ls.st with line := ls.st.line + 1, fresh := true }, ls.opens.dropLast ++ [x'], k', ls.pos + s.length + 1⟩
  else
    match addF (s ++ [10]) ls.pos ls.k { ls.st with line := ls.st.line + 1 } with
    | .error p => .error p
    | .ok st2 => .ok ⟨st2, ls.opens, ls.k, ls.pos + s.length + 1⟩

theorem stepF_line (L : List (List UInt8)) (M : List (List UInt8 × Int)) (rec : Int → Dg → St → Res St) {text s r : List UInt8} {ls : LS} (h : text.drop ls.pos = s ++ 10 :: r) (hs : (10 : UInt8) ∉ s) : stepF L M rec text ls = stepL L M rec s ls := by
  have e1 : lineOf (text.drop ls.pos) = s := by rw [h]; exact lineOf_flat hs r
  have e2 : (text.drop ls.pos).take (s.length + 1) = s ++ [10] := by
    rw [h, List.take_append, List.take_of_length_le (by omega)]
    simp
  unfold stepF stepL
  simp only [e1, e2]
  rfl
theorem stepL_pos {L : List (List UInt8)} {M : List (List UInt8 × Int)} {rec : Int → Dg → St → Res St} {s : List UInt8} {ls ls' : LS} (h : stepL L M rec s ls = .ok ls') : ls'.pos = ls.pos + s.length + 1 := by
  unfold stepL at h
  split at h
  · split at h
    · cases h
    · split at h
      · cases h
      · cases h; rfl
  · split at h
    · split at h
      · cases h
      · split at h
        · cases h
        · split at h
          · cases h
          · cases h; rfl
    · split at h
      · split at h
        · cases h
        · split at h
          · cases h; rfl
          · split at h
            · cases h
            · cases h; rfl
      · split at h
        · cases h
        · cases h; rfl

noncomputable def runL (L : List (List UInt8)) (M : List (List UInt8 × Int)) (rec : Int → Dg → St → Res St) : List (List UInt8) → LS → Res LS
  | [], ls => .ok ls
  | s :: l, ls => match stepL L M rec s ls with | .error p => .error p | .ok ls' => runL L M rec l ls'

theorem linesF_flat (L : List (List UInt8)) (M : List (List UInt8 × Int)) (rec : Int → Dg → St → Res St) (text : List UInt8) : ∀ (l : List (List UInt8)) (g : Nat) (ls : LS), text.drop ls.pos = flat l → (∀ s ∈ l, (10 : UInt8) ∉ s) → l.length ≤ g →
    linesF L M rec text g ls = runL L M rec l ls := by
  intro l
  induction l with
  | nil =>
    intro g ls h _ _
    have hp : text.length ≤ ls.pos := by
      have := congrArg List.length h
      simp [flat] at this
      omega
    cases g with
    | zero => rfl
    | succ g => simp only [linesF, runL]; rw [if_neg (by omega)]
  | cons s l ih =>
    intro g ls h hs hg
    obtain ⟨g, rfl⟩ : ∃ g', g = g' + 1 := ⟨g - 1, by simp at hg; omega⟩
    have hp : ls.pos < text.length := by
      have := congrArg List.length h
      simp [flat] at this
      omega
    simp only [linesF, runL]
    rw [if_pos hp, stepF_line L M rec h (hs s (by simp))]
    cases hst : stepL L M rec s ls with
    | error p => rfl
    | ok ls' =>
      have e := stepL_pos hst
      refine ih g ls' ?_ (fun t ht => hs t (by simp [ht])) (by simp at hg; omega)
      rw [e, show ls.pos + s.length + 1 = ls.pos + (s.length + 1) by omega, ← List.drop_drop, h]
      show (s ++ 10 :: flat l).drop (s.length + 1) = flat l
      rw [List.drop_append, List.drop_of_length_le (by omega)]
      simp

theorem flat_len (l : List (List UInt8)) : l.length ≤ (flat l).length := by
  induction l with
  | nil => simp
  | cons s l ih => simp [flat]; omega
/-- A file of lines. -/
theorem fileF_flat (L : List (List UInt8)) (M : List (List UInt8 × Int)) (rec : Int → Dg → St → Res St) (l : List (List UInt8)) (hl : ∀ s ∈ l, (10 : UInt8) ∉ s) (n : Int) (k : Dg) (st : St) : fileF L M rec (flat l) n k st =
  match runL L M rec l (startL n k st) with
  | .error p => .error p
  | .ok ls =>
    match ls.opens.getLast? with
    | some x => .error ⟨72, ls.st.file, x.line⟩
    | none => .ok { ls.st with reading := adel ls.st.reading n, file := st.file, line := st.line, fresh := true } := by
  unfold fileF
  rw [linesF_flat L M rec (flat l) l _ _ rfl hl (by have := flat_len l; omega)]
  rfl
end Go.Proofs.YtpekmohnjpbkgaaGreatDoor

namespace Go.Proofs.YtpekmohnjpbkgaaGreatDoor
open Go Go.RowKit
set_option maxHeartbeats 1000000
set_option maxRecDepth 100000
attribute [local go_sem ↓] Go.wp_at_zero Go.wp_at_succ

def intCells (n : Int) : List Value := [.int .i64 n]
theorem rowInt : RowTy 52 3 1 intCells where
  under := Tryz.underlying52
  info := ⟨.int .i64 0, 8, by kernel_rfl, rfl, by omega⟩
  pos := by omega
  len := fun _ => rfl
  one := fun x u hu => by simp [intCells] at hu; subst hu; rfl

/-- A list of numbers and a code that a call has made. -/
def IntsPost (w : World) (l : List Int) (c : Int) (e : Ending) (w' : World) : Prop :=
  ∃ a cap, e = .returned (.tuple #[.slice a l.length cap, .int .i64 c]) ∧ Rd w' a (rowCells intCells l) ∧ Below w.heap.size w w'

open Classical in
theorem disjB_eq {x y : Dg} {r : Bool} (h : r = true ↔ chks [x, y] = 0 ∧ ∀ c, x.den c = true → y.den c = false) : r = disjB x y := by
  unfold disjB
  by_cases hq : chks [x, y] = 0 ∧ ∀ c, x.den c = true → y.den c = false
  · rw [decide_eq_true hq]
    exact h.2 hq
  · rw [decide_eq_false hq]
    cases r with
    | false => rfl
    | true => exact absurd (h.1 rfl) hq

theorem dead7_any (l : List UInt8) (V : List SegV) (a : Option Addr) (cap : Nat) (fam : DA) (w : World) (hl : l.length ≤ 1048576) (hV : V.length ≤ 65536) (hr : SegsAt w a V) (hf : fam.ok w) :
    Calls Tryz.prog 33 #[.agg #[str l, .slice a V.length cap], fam.val] w (IntsPost w (deadF ⟨l, V.map SegV.d⟩ fam.d).1 (deadF ⟨l, V.map SegV.d⟩ fam.d).2) := by
  obtain ⟨fd, fa, fc⟩ := fam
  simp only [DA.val]
  have k0 := (Blk.new w #[str l, .slice a V.length cap] 29).alloc (.cells #[.slice fa fd.nodes.length fc, .int .i64 fd.root] 42)
  have kf := Blk.new (w.alloc (.cells #[str l, .slice a V.length cap] 29)) #[.slice fa fd.nodes.length fc, .int .i64 fd.root] 42
  simp only [World.size_alloc] at kf
  have b0 : Below w.heap.size w ((w.alloc (.cells #[str l, .slice a V.length cap] 29)).alloc (.cells #[.slice fa fd.nodes.length fc, .int .i64 fd.root] 42)) :=
    Mod.below (S := fun k => w.heap.size ≤ k) (((Mod.refl _ _).alloc _).alloc _) (Nat.le_refl _) (fun k hk h => by omega)
  have ck := scheck_any l V a cap _ hl hV (hr.below b0)
  generalize hg : deadF ⟨l, V.map SegV.d⟩ fd = g
  have hF : g = if chkS ⟨l, V.map SegV.d⟩ ≠ 0 then ([], chkS ⟨l, V.map SegV.d⟩) else if chk fd ≠ 0 then ([], 20) else (deadG fd (V.map SegV.d) 0, 0) := by rw [← hg]; rfl
  clear hg
  by_cases hq : chkS ⟨l, V.map SegV.d⟩ = 0
  · rw [hq] at ck
    rw [if_neg (by simpa using hq)] at hF
    clear hq
    have HF := Lib.hid hF
    clear hF
    generalize hn : V.length = len at *
    have HN := Lib.hid hn
    clear hn
    go_enter Tryz.func33, Tryz.ntmps33
    go_wp2_with fail
    refine ck.mono ?_
    rintro e w1 ⟨rfl, b1⟩
    have bw1 : Below w.heap.size w w1 := b0.trans (b1.mono b0.size)
    have k1 := k0.mod (Mod.of_below (S := fun _ => False) b1) (fun h => h)
    have kf1 := kf.mod (Mod.of_below (S := fun _ => False) b1) (fun h => h)
    have e0 := k1.cell 0
    have e1 := k1.cell 1
    have f0 := kf1.cell 0
    have f1 := kf1.cell 1
    have hk1 := k1.lt
    have hkf1 := kf1.lt
    simp at e0 e1 f0 f1
    clear ck
    have cf := check_any fd fa fc w1 (hf.below bw1)
    by_cases hc : chk fd = 0
    · rw [hc] at cf
      have hcn := hc
      have hF := HF.out
      rw [if_neg (by simpa using hc)] at hF
      clear hc HF hcn
      go_wp2_with fail
      refine cf.mono ?_
      rintro e w2 ⟨rfl, b2⟩
      have bw2 : Below w.heap.size w w2 := bw1.trans (b2.mono bw1.size)
      have k2 := k1.mod (Mod.of_below (S := fun _ => False) b2) (fun h => h)
      have kf2 := kf1.mod (Mod.of_below (S := fun _ => False) b2) (fun h => h)
      clear e0 e1 f0 f1
      have e0 := k2.cell 0
      have e1 := k2.cell 1
      have hk2 := k2.lt
      simp at e0 e1
      have HF2 := Lib.hid hF
      clear hF
      go_wp2_with fail
      go_loopg [21, 7, 8, 9] (len + 1) (fun k ct va u8 u9 wr => ∃ (i : Nat) (D : List Int), i ≤ len ∧ k + i = len + 1 ∧ ct = .int .i64 i ∧ Own 3 1 intCells w.heap.size wr va D ∧ D.length ≤ i ∧ Hid (g = (D ++ deadG fd ((V.drop i).map SegV.d) i, 0)) ∧ Below w.heap.size w wr ∧ Blk wr w.heap.size #[str l, .slice a len cap] 29 ∧ Blk wr (w.heap.size + 1) #[.slice fa fd.nodes.length fc, .int .i64 fd.root] 42)
      case atStart => exact ⟨0, [], Nat.zero_le _, rfl, rfl, Own.nil _ _, by simp, Lib.hid (by rw [HF2.out]; rfl), bw2, k2, kf2⟩
      case round =>
        obtain ⟨i, D, hi, hk, rfl, own, hD, HL, bw, k3, kf3⟩ := hrel
        by_cases hlt : i < len
        · obtain ⟨x, hx⟩ : ∃ x, V[i]? = some x := ⟨V[i]'(by have := HN.out; omega), List.getElem?_eq_getElem _⟩
          obtain ⟨hok, b, o, rfl, hb, x0, x1, x2, x3, x4, x5⟩ := (hr.below bw).at hx
          have hdr := drop_of hx
          have hL2 : g = (D ++ (if disjB x.da.d fd = true then (i : Int) :: deadG fd ((V.drop (i + 1)).map SegV.d) (i + 1) else deadG fd ((V.drop (i + 1)).map SegV.d) (i + 1)), 0) := by rw [HL.out, hdr]; rfl
          have HL2 := Lib.hid hL2
          have i0 : (0 : Int) ≤ (i : Int) := by omega
          have i1 : (i : Int) < (len : Int) := by omega
          clear hx hdr HL hL2
          obtain ⟨fr, till, file, at', ⟨d, da, dc⟩⟩ := x
          simp only at *
          have hal : Below wr.heap.size wr (wr.alloc (.cells #[.int .i64 fr, .int .i64 till, .int .i64 file, .int .i64 at', .slice da d.nodes.length dc, .int .i64 d.root] 45)) := (Below.refl _ _).alloc (Nat.le_refl _) _
          have hh := disjoint_any ⟨d, da, dc⟩ ⟨fd, fa, fc⟩ (wr.alloc (.cells #[.int .i64 fr, .int .i64 till, .int .i64 file, .int .i64 at', .slice da d.nodes.length dc, .int .i64 d.root] 45)) (hok.below hal) ((hf.below bw).below hal)
          simp only [DA.val] at hh
          have ownx := own.alloc (.cells #[.int .i64 fr, .int .i64 till, .int .i64 file, .int .i64 at', .slice da d.nodes.length dc, .int .i64 d.root] 45)
          have bwx := bw.alloc bw.size (.cells #[.int .i64 fr, .int .i64 till, .int .i64 file, .int .i64 at', .slice da d.nodes.length dc, .int .i64 d.root] 45)
          have kk := k3.alloc (.cells #[.int .i64 fr, .int .i64 till, .int .i64 file, .int .i64 at', .slice da d.nodes.length dc, .int .i64 d.root] 45)
          have kkf := kf3.alloc (.cells #[.int .i64 fr, .int .i64 till, .int .i64 file, .int .i64 at', .slice da d.nodes.length dc, .int .i64 d.root] 45)
          have f0 := kf3.cell 0
          have f1 := kf3.cell 1
          have hkf3 := kf3.lt
          simp at f0 f1
          go_wp2_with fail
          refine hh.mono ?_
          rintro e w4 ⟨r, rfl, hr2, b4⟩
          have m4 := Mod.of_below (S := fun _ => False) b4
          have HR := Lib.hid (disjB_eq hr2)
          have own4 := ownx.mod m4 (fun _ _ h => h)
          have kk4 := kk.mod m4 (fun h => h)
          have kkf4 := kkf.mod m4 (fun h => h)
          have bw4 := bwx.trans (b4.mono bwx.size)
          clear hr2 hh ownx kk kkf f0 f1
          cases r
          · have hL3 : g = (D ++ deadG fd ((V.drop (i + 1)).map SegV.d) (i + 1), 0) := by rw [HL2.out, ← HR.out]; rfl
            have HL3 := Lib.hid hL3
            clear hL3
            go_wp2_with fail
            go_roundg (len - i)
            case measure => omega
            case rel => exact ⟨i + 1, D, by omega, by omega, by go_num, own4, by omega, HL3, bw4, kk4, kkf4⟩
          · have hL3 : g = (D ++ [(i : Int)] ++ deadG fd ((V.drop (i + 1)).map SegV.d) (i + 1), 0) := by rw [HL2.out, ← HR.out]; simp
            have HL3 := Lib.hid hL3
            clear hL3
            obtain ⟨vA, vC, rfl⟩ := own4.form
            go_wp2_with (at_builtin; refine wpList_append_row rowInt (by rfl) _ _ (by rfl) w.heap.size (.slice vA D.length vC) D (i : Int) (by rfl) (own4.alloc _) w4.heap.size (by rfl) (Blk.new _ _ _) (by omega) (by have := bw4.size; simp; omega) (w4.heap.size + 1) (by simp) ?_)
            intro gg cp w5 own5 grow hat hlt5
            have hsz4 := bw4.size
            have m5 : Mod (fun k => (Value.slice vA D.length vC).ownBlock = some k) w4 w5 := ((Mod.refl _ _).alloc _).grown grow (fun k e _ => e)
            have kk5 := (kk4.alloc (.cells #[.int .i64 i] 3)).mod (Mod.of_grown grow) (fun e => (own4.ne_blk e.symm kk4 (by decide)) rfl)
            have kkf5 := (kkf4.alloc (.cells #[.int .i64 i] 3)).mod (Mod.of_grown grow) (fun e => (own4.ne_blk e.symm kkf4 (by decide)) rfl)
            have bw5 : Below w.heap.size w w5 := bw4.trans (m5.below hsz4 (fun k hk e => by have := (own4.lt e).1; omega))
            clear hat grow
            go_wp2_with fail
            go_roundg (len - i)
            case measure => omega
            case rel => exact ⟨i + 1, D ++ [(i : Int)], by omega, by omega, by go_num, by simpa using own5, by simp; omega, HL3, bw5, kk5, kkf5⟩
        · have : i = len := by omega
          subst this
          have hd : V.drop i = [] := List.drop_of_length_le (by rw [HN.out]; exact Nat.le_refl _)
          have hcc : g = (D, 0) := by rw [HL.out, hd]; simp [deadG]
          subst hcc
          obtain ⟨va', cp, rfl⟩ := own.form
          clear HL HF2 hd
          go_wp2_with fail
          go_ret2
          exact ⟨va', cp, rfl, own.rd, bw⟩
    · have hF := HF.out
      rw [if_pos hc] at hF
      have hc' : (chk fd != 0) = true := by rw [bne_iff_ne]; exact hc
      subst hF
      clear hc HF
      go_wp2_with fail
      refine cf.mono ?_
      rintro e w2 ⟨rfl, b2⟩
      go_wp2_with fail
      go_ret2
      exact ⟨none, 0, rfl, Rd.nil _ _, bw1.trans (b2.mono bw1.size)⟩
  · rw [if_pos hq] at hF
    subst hF
    have hq' : (chkS ⟨l, V.map SegV.d⟩ != 0) = true := by rw [bne_iff_ne]; exact hq
    generalize chkS ⟨l, V.map SegV.d⟩ = q at *
    generalize V.length = len at *
    clear hq
    go_enter Tryz.func33, Tryz.ntmps33
    go_wp2_with fail
    refine ck.mono ?_
    rintro e w1 ⟨rfl, b1⟩
    go_wp2_with fail
    go_ret2
    exact ⟨none, 0, rfl, Rd.nil _ _, b0.trans (b1.mono b0.size)⟩
end Go.Proofs.YtpekmohnjpbkgaaGreatDoor

namespace Go.Proofs.YtpekmohnjpbkgaaGreatDoor
open Go Go.RowKit
set_option maxRecDepth 100000

def saL : List (List UInt8) := [[65], [66]]
def saM : List UInt8 := [111, 110, 101, 10, 35, 105, 102, 32, 65, 32, 38, 38, 32, 33, 66, 10, 116, 119, 111, 10, 35, 101, 108, 105, 102, 32, 66, 10, 35, 105, 110, 99, 108, 117, 100, 101, 32, 34, 110, 34, 10, 35, 101, 108, 115, 101, 10, 102, 111, 117, 114, 10, 35, 101, 110, 100, 10, 102, 105, 118, 101, 10]
def saN : List UInt8 := [116, 104, 114, 101, 101, 10]
def saT : List UInt8 := [111, 110, 101, 10, 116, 119, 111, 10, 116, 104, 114, 101, 101, 10, 102, 111, 117, 114, 10, 102, 105, 118, 101, 10]
def saFiles : List Fl := [⟨[109], saM⟩, ⟨[110], saN⟩]
def saA : List UInt8 := [65, 32, 38, 38, 32, 33, 66]
def saB : List UInt8 := [66]
noncomputable def sd1 : Dg := andD (constD true) (setD saL saA)
noncomputable def sdR : Dg := andD (constD true) (notD (setD saL saA))
noncomputable def sd2 : Dg := andD sdR (setD saL saB)
noncomputable def sd3 : Dg := andD sdR (notD (setD saL saB))
noncomputable def saS : SrcD := ⟨saT, [⟨0, 4, 0, 0, constD true⟩, ⟨4, 8, 0, 16, sd1⟩, ⟨8, 14, 1, 0, sd2⟩, ⟨14, 19, 0, 47, sd3⟩, ⟨19, 24, 0, 57, constD true⟩]⟩

theorem san_read : readAll saL saFiles [109] = (saS, ⟨0, 0, 0⟩) := by kernel_rfl
theorem san_open : readAll saL [⟨[109], saM.take 47⟩, ⟨[110], saN⟩] [109] = (⟨[], []⟩, ⟨72, 0, 2⟩) := by kernel_rfl

theorem saA_ok : Sm 6 (setD saL saA) ∧ ∀ c, (setD saL saA).den c = (c 0 && !c 1) := by
  have h := setD_ok (L := saL) (s := saA) (by decide) (by kernel_rfl)
  refine ⟨h.1, fun c => ?_⟩
  rw [h.2]
  have e : (parseF saL saA).1 = [⟨2, 0, 0, 0⟩, ⟨2, 1, 0, 0⟩, ⟨3, 0, 1, 0⟩, ⟨4, 0, 0, 2⟩] := by kernel_rfl
  rw [e]
  rfl
theorem saB_ok : Sm 6 (setD saL saB) ∧ ∀ c, (setD saL saB).den c = c 1 := by
  have h := setD_ok (L := saL) (s := saB) (by decide) (by kernel_rfl)
  refine ⟨h.1, fun c => ?_⟩
  rw [h.2]
  have e : (parseF saL saB).1 = [⟨2, 1, 0, 0⟩] := by kernel_rfl
  rw [e]
  rfl
theorem sd1_ok : Sm 6 sd1 ∧ ∀ c, sd1.den c = (c 0 && !c 1) := by
  have h := (Sm.const true).1.and saA_ok.1
  exact ⟨h.1, fun c => by show (andD _ _).den c = _; rw [h.2.1, (Sm.const true).2, saA_ok.2]; rfl⟩
theorem sdR_ok : Sm 6 sdR ∧ ∀ c, sdR.den c = !(c 0 && !c 1) := by
  have h := (Sm.const true).1.and saA_ok.1.not.1
  exact ⟨h.1, fun c => by show (andD _ _).den c = _; rw [h.2.1, (Sm.const true).2, saA_ok.1.not.2.1, saA_ok.2]; rfl⟩
theorem sd2_ok : Sm 6 sd2 ∧ ∀ c, sd2.den c = (!(c 0 && !c 1) && c 1) := by
  have h := sdR_ok.1.and saB_ok.1
  exact ⟨h.1, fun c => by show (andD _ _).den c = _; rw [h.2.1, sdR_ok.2, saB_ok.2]⟩
theorem sd3_ok : Sm 6 sd3 ∧ ∀ c, sd3.den c = (!(c 0 && !c 1) && !c 1) := by
  have h := sdR_ok.1.and saB_ok.1.not.1
  exact ⟨h.1, fun c => by show (andD _ _).den c = _; rw [h.2.1, sdR_ok.2, saB_ok.1.not.2.1, saB_ok.2]⟩

theorem holdsB_sm {d : Dg} (h : Sm 6 d) (c : Int) : holdsB d c = d.den (cfg64 c) := by
  unfold holdsB; rw [chk_of h]; rfl
theorem disjB_sm {x y : Dg} (hx : Sm 6 x) (hy : Sm 6 y) : disjB x y = true ↔ ∀ c, x.den c = true → y.den c = false := by
  unfold disjB
  have h : chks [x, y] = 0 := chks_good (fun j z hz => by
    have hm := List.mem_of_getElem? hz
    simp only [List.mem_cons, List.not_mem_nil, or_false] at hm
    rcases hm with rfl | rfl
    · exact chk_of hx
    · exact chk_of hy)
  simp [h]

theorem san_chk : chkS saS = 0 := by
  have h0 : chk (constD true) = 0 := chk_of (Sm.const true).1
  have h1 := chk_of sd1_ok.1
  have h2 := chk_of sd2_ok.1
  have h3 := chk_of sd3_ok.1
  unfold chkS
  rw [if_neg (by decide)]
  show chkSegs saT _ 0 = 0
  simp only [saS, chkSegs, segBad, h0, h1, h2, h3]
  decide
theorem san_holds0 : holdsB (constD true) 1 = true := by rw [holdsB_sm (Sm.const true).1, (Sm.const true).2]
theorem san_holds1 : holdsB sd1 1 = true := by rw [holdsB_sm sd1_ok.1, sd1_ok.2]; decide
theorem san_holds2 : holdsB sd2 1 = false := by rw [holdsB_sm sd2_ok.1, sd2_ok.2]; decide
theorem san_holds3 : holdsB sd3 1 = false := by rw [holdsB_sm sd3_ok.1, sd3_ok.2]; decide
theorem san_sel : selF saS 1 = [⟨0, 4, 0, 0, constD true⟩, ⟨4, 8, 0, 16, sd1⟩, ⟨19, 24, 0, 57, constD true⟩] := by
  unfold selF saS
  simp [List.filter, san_holds0, san_holds1, san_holds2, san_holds3]
theorem san_local : localF saS 1 19 = (8, true) := by
  unfold localF
  rw [if_neg (by rw [san_chk]; decide), san_sel]
  kernel_rfl
theorem san_local2 : localF saS 1 8 = (0, false) := by
  unfold localF
  rw [if_neg (by rw [san_chk]; decide), san_sel]
  kernel_rfl
theorem san_global : globalF saS 1 8 = (19, true) := by
  unfold globalF
  rw [if_neg (by rw [san_chk]; decide), san_sel]
  kernel_rfl
theorem san_origin : originF saS 9 = (1, 1, true) := by
  unfold originF
  rw [if_neg (by rw [san_chk]; decide)]
  kernel_rfl
theorem san_select : selectF saS 1 = [111, 110, 101, 10, 116, 119, 111, 10, 102, 105, 118, 101, 10] := by
  unfold selectF
  rw [if_neg (by rw [san_chk]; decide), san_sel]
  kernel_rfl
theorem san_dead : deadF saS (varD 1) = ([1, 3], 0) := by
  have hv := Sm.var (v := 1) (by decide) (by decide)
  have hc : chk (varD 1) = 0 := chk_of hv.1
  have q0 : disjB (constD true) (varD 1) = false := by
    rw [Bool.eq_false_iff, ne_eq, disjB_sm (Sm.const true).1 hv.1]
    intro h
    have := h (fun _ => true) ((Sm.const true).2 _)
    rw [hv.2.1] at this
    cases this
  have q1 : disjB sd1 (varD 1) = true := by
    rw [disjB_sm sd1_ok.1 hv.1]
    intro c h
    rw [sd1_ok.2] at h
    rw [hv.2.1]
    show c 1 = false
    revert h
    cases c 0 <;> cases c 1 <;> decide
  have q2 : disjB sd2 (varD 1) = false := by
    rw [Bool.eq_false_iff, ne_eq, disjB_sm sd2_ok.1 hv.1]
    intro h
    have := h (fun _ => true) (by rw [sd2_ok.2]; rfl)
    rw [hv.2.1] at this
    cases this
  have q3 : disjB sd3 (varD 1) = true := by
    rw [disjB_sm sd3_ok.1 hv.1]
    intro c h
    rw [sd3_ok.2] at h
    rw [hv.2.1]
    show c 1 = false
    revert h
    cases c 0 <;> cases c 1 <;> decide
  unfold deadF
  rw [if_neg (by rw [san_chk]; decide), if_neg (by rw [hc]; decide)]
  show (deadG (varD 1) [⟨0, 4, 0, 0, constD true⟩, ⟨4, 8, 0, 16, sd1⟩, ⟨8, 14, 1, 0, sd2⟩, ⟨14, 19, 0, 47, sd3⟩, ⟨19, 24, 0, 57, constD true⟩] 0, (0 : Int)) = _
  simp only [deadG, q0, q1, q2, q3]
  kernel_rfl
end Go.Proofs.YtpekmohnjpbkgaaGreatDoor
