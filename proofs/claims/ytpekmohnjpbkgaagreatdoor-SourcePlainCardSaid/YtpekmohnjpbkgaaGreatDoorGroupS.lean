/- Files without directives: what the plain reader answers. The reference's expressions. -/
import Derived.Test.YtpekmohnjpbkgaaGreatDoorGroupP
import Derived.Test.YtpekmohnjpbkgaaGreatDoorGroupQ
import Derived.Lib.Hide
import Derived.Deep.DeepCutAuto
namespace Go.Proofs.YtpekmohnjpbkgaaGreatDoor
open Go Go.RowKit
set_option maxRecDepth 100000

/-- A line that is no directive. -/
structure PlainL (s : List UInt8) : Prop where
  feed : (10 : UInt8) ∉ s
  i : headOf s ≠ sIf
  n : headOf s ≠ sInclude
  l : headOf s ≠ sElif
  e : s ≠ sElse
  d : s ≠ sEnd
theorem headOf_head (s : List UInt8) (b : UInt8) (l : List UInt8) (h : headOf s = b :: l) : s.head? = some b := by
  unfold headOf at h
  cases s with
  | nil => cases h
  | cons c s =>
    rw [List.takeWhile_cons] at h
    split at h
    · cases h; rfl
    · cases h
theorem PlainL.of {s : List UInt8} (h10 : (10 : UInt8) ∉ s) (h : s.head? ≠ some 35) : PlainL s :=
  ⟨h10, fun e => h (headOf_head s 35 _ e), fun e => h (headOf_head s 35 _ e), fun e => h (headOf_head s 35 _ e), fun e => h (by rw [e]; rfl), fun e => h (by rw [e]; rfl)⟩

theorem stepL_plain (L : List (List UInt8)) (M : List (List UInt8 × Int)) (rec : Int → Dg → St → Res St) {s : List UInt8} (h : PlainL s) (ls : LS) : stepL L M rec s ls =
    match addF (s ++ [10]) ls.pos ls.k { ls.st with line := ls.st.line + 1 } with
    | .error p => .error p
    | .ok st2 => .ok ⟨st2, ls.opens, ls.k, ls.pos + s.length + 1⟩ := by
  unfold stepL
  rw [if_neg (fun e => h.i e.1), if_neg (fun e => h.n e.1), if_neg (by rintro (e | e | e); exact h.l e.1; exact h.e e; exact h.d e)]
  rfl
theorem addF_fresh (s : List UInt8) (pos : Int) (k : Dg) (st : St) (hf : st.fresh = true) (h1 : st.text.length + s.length ≤ 1048576) (h2 : st.out.length < 65536) :
    addF s pos k st = .ok { st with out := st.out ++ [⟨st.text.length, (st.text.length + s.length : Nat), st.file, pos, k⟩], fresh := false, text := st.text ++ s } := by
  unfold addF
  rw [if_neg (by rintro (h | ⟨_, h⟩) <;> omega), hf]
  simp [setLast]
theorem addF_more (s : List UInt8) (pos : Int) (k : Dg) (st : St) (D : List SegD) (x : SegD) (ho : st.out = D ++ [x]) (hf : st.fresh = false) (h1 : st.text.length + s.length ≤ 1048576) :
    addF s pos k st = .ok { st with out := D ++ [{ x with till := (st.text.length + s.length : Nat) }], fresh := false, text := st.text ++ s } := by
  unfold addF
  rw [if_neg (by rintro (h | ⟨h, _⟩); omega; rw [hf] at h; cases h), hf]
  simp [setLast, ho]

/-- Further lines of text behind one. -/
theorem runL_more (L : List (List UInt8)) (M : List (List UInt8 × Int)) (rec : Int → Dg → St → Res St) : ∀ (l : List (List UInt8)), (∀ s ∈ l, PlainL s) → ∀ (ls : LS) (D : List SegD) (x : SegD), ls.st.out = D ++ [x] → x.till = ls.st.text.length → ls.st.fresh = false → ls.st.text.length + (flat l).length ≤ 1048576 →
    runL L M rec l ls = .ok ⟨{ ls.st with line := ls.st.line + l.length, out := D ++ [{ x with till := (ls.st.text.length + (flat l).length : Nat) }], text := ls.st.text ++ flat l }, ls.opens, ls.k, ls.pos + (flat l).length⟩ := by
  intro l
  induction l with
  | nil =>
    intro _ ls D x ho hx hf _
    obtain ⟨st, opens, k, pos⟩ := ls
    obtain ⟨rd, dp, tx, out, fr, fi, ln⟩ := st
    simp only at ho hx hf
    subst ho
    simp [runL, flat, ← hx]
  | cons s l ih =>
    intro hp ls D x ho hx hf hlen
    have hs := hp s (by simp)
    have e1 : (flat (s :: l)).length = s.length + 1 + (flat l).length := by simp [flat]; omega
    rw [e1] at hlen
    simp only [runL]
    rw [stepL_plain L M rec hs, addF_more (s ++ [10]) ls.pos ls.k { ls.st with line := ls.st.line + 1 } D x ho hf (by simp; omega)]
    simp only
    rw [ih (fun t ht => hp t (by simp [ht])) _ D _ rfl (by simp) rfl (by simp; omega)]
    refine congrArg Except.ok ?_
    simp only [LS.mk.injEq, St.mk.injEq, true_and, flat, List.length_append, List.length_cons, List.length_nil]
    have q1 : ls.st.text.length + (s.length + (0 + 1)) + (flat l).length = ls.st.text.length + (s.length + ((flat l).length + 1)) := by omega
    exact ⟨⟨by simp, by rw [q1], hf.symm, by omega⟩, by omega⟩
/-- Lines of text at a fresh place. -/
theorem runL_fresh (L : List (List UInt8)) (M : List (List UInt8 × Int)) (rec : Int → Dg → St → Res St) (s : List UInt8) (l : List (List UInt8)) (hp : ∀ t ∈ s :: l, PlainL t) (ls : LS) (hf : ls.st.fresh = true) (ho : ls.st.out.length < 65536) (hlen : ls.st.text.length + (flat (s :: l)).length ≤ 1048576) :
    runL L M rec (s :: l) ls = .ok ⟨{ ls.st with line := ls.st.line + ((s :: l).length : Nat), out := ls.st.out ++ [⟨ls.st.text.length, (ls.st.text.length + (flat (s :: l)).length : Nat), ls.st.file, ls.pos, ls.k⟩], fresh := false, text := ls.st.text ++ flat (s :: l) }, ls.opens, ls.k, ls.pos + (flat (s :: l)).length⟩ := by
  have hs := hp s (by simp)
  have e1 : (flat (s :: l)).length = s.length + 1 + (flat l).length := by simp [flat]; omega
  rw [e1] at hlen
  have e0 : runL L M rec (s :: l) ls = match stepL L M rec s ls with | .error p => Except.error p | .ok ls' => runL L M rec l ls' := rfl
  rw [e0]
  rw [stepL_plain L M rec hs, addF_fresh (s ++ [10]) ls.pos ls.k { ls.st with line := ls.st.line + 1 } hf (by simp; omega) ho]
  simp only
  rw [runL_more L M rec l (fun t ht => hp t (by simp [ht])) _ _ _ rfl (by simp) rfl (by simp; omega)]
  refine congrArg Except.ok ?_
  simp only [LS.mk.injEq, St.mk.injEq, true_and, flat, List.length_append, List.length_cons, List.length_nil]
  have q1 : ls.st.text.length + (s.length + (0 + 1)) + (flat l).length = ls.st.text.length + (s.length + ((flat l).length + 1)) := by omega
  exact ⟨⟨by simp, by rw [q1], by omega⟩, by omega⟩

def plOther : List UInt8 := [111, 116, 104, 101, 114]
def plRoot : List UInt8 := [97, 32, 98]
noncomputable def plS (text : List UInt8) : SrcD := ⟨text, if text = [] then [] else [⟨0, text.length, 1, 0, constD true⟩]⟩
theorem plain_read (l : List (List UInt8)) (hp : ∀ t ∈ l, PlainL t) (hlen : (flat l).length ≤ 1048576) :
    readAll [] [⟨plOther, [35, 101, 110, 100, 10]⟩, ⟨plRoot, flat l⟩] plRoot = (plS (flat l), ⟨0, 0, 0⟩) := by
  unfold readAll
  rw [if_neg (by decide)]
  have hfl : (filesR [⟨plOther, [35, 101, 110, 100, 10]⟩, ⟨plRoot, flat l⟩]).e = 0 := by
    unfold filesR
    rw [if_neg (by simp)]
    simp only [filesF]
    have h1 : fileBad [] ⟨plOther, [35, 101, 110, 100, 10]⟩ = false := by decide
    have h2 : fileBad (aset [] plOther true) ⟨plRoot, flat l⟩ = false := by
      have : (decide (flat l ≠ []) && decide ((flat l).getLast? ≠ some 10)) = false := by
        cases l with
        | nil => rfl
        | cons s l => rw [flat_last (s :: l) (by simp)]; simp
      unfold fileBad
      simp only [this]
      have q1 : decide (plRoot = []) = false := by decide
      have q2 : (aget (aset [] plOther true) plRoot).getD false = false := by decide
      have q3 : plRoot.any byteBad = false := by decide
      rw [q1, q2, q3]
      rfl
    rw [h1, h2, if_neg (by decide), if_neg (by decide), if_neg (by decide), if_neg (by simpa using hlen)]
  rw [if_neg (by rw [hfl]; decide)]
  have hr : aget (numG (([⟨plOther, [35, 101, 110, 100, 10]⟩, ⟨plRoot, flat l⟩] : List Fl).map Fl.name) 0 []) plRoot = some 1 := by
    show aget (numG [plOther, plRoot] 0 []) plRoot = some 1
    decide
  rw [hr]
  simp only
  rw [show (65 : Nat) = 64 + 1 from rfl, readF_succ]
  have ht : (([⟨plOther, [35, 101, 110, 100, 10]⟩, ⟨plRoot, flat l⟩] : List Fl).map Fl.text).getD (1 : Int).toNat [] = flat l := rfl
  rw [ht, fileF_flat _ _ _ l (fun s hs => (hp s hs).feed)]
  cases l with
  | nil => rfl
  | cons s l =>
    rw [runL_fresh _ _ _ s l hp _ rfl (by decide) (by simpa [st0] using hlen)]
    have hne : flat (s :: l) ≠ [] := by simp [flat]
    simp [plS, hne, st0]
theorem plain_chk {text : List UInt8} (ht : text ≠ [] → text.getLast? = some 10) (hlen : text.length ≤ 1048576) : chkS (plS text) = 0 := by
  have h0 : chk (constD true) = 0 := chk_of (Sm.const true).1
  by_cases hne : text = []
  · subst hne; rfl
  unfold chkS plS
  rw [if_neg hne]
  have hl : 0 < text.length := List.length_pos_iff.2 hne
  have hx := ht hne
  rw [List.getLast?_eq_getElem?] at hx
  rw [if_neg (by simp; omega)]
  have hb : segBad text 0 ⟨0, text.length, 1, 0, constD true⟩ = false := by
    unfold segBad
    have e : ((text.length : Int) - 1).toNat = text.length - 1 := by omega
    simp only [h0, e, hx]
    simp
    exact ⟨hne, by omega⟩
  simp only [chkSegs, hb]
  simp
theorem plain_select {text : List UInt8} (ht : text ≠ [] → text.getLast? = some 10) (hlen : text.length ≤ 1048576) (c : Int) : selectF (plS text) c = text := by
  unfold selectF
  rw [if_neg (by rw [plain_chk ht hlen]; decide)]
  by_cases hne : text = []
  · subst hne; rfl
  have hh : holdsB (constD true) c = true := by rw [holdsB_sm (Sm.const true).1, (Sm.const true).2]
  unfold selF plS
  rw [if_neg hne]
  simp [List.filter, hh, cutB]
end Go.Proofs.YtpekmohnjpbkgaaGreatDoor

namespace Go.Proofs.YtpekmohnjpbkgaaGreatDoor
open Go Go.RowKit
set_option maxHeartbeats 1000000
set_option maxRecDepth 100000
attribute [local go_sem ↓] Go.wp_at_zero Go.wp_at_succ

/-- Strings put together. -/
theorem bytes_cat (l m : List UInt8) : (⟨l.toArray⟩ : ByteArray) ++ ⟨m.toArray⟩ = ⟨(l ++ m).toArray⟩ := by
  apply ByteArray.ext
  simp

theorem formula_any (L : List (List UInt8)) (hl : L.length ≤ 64) (hs : ∀ s ∈ L, s.length ≤ 1000) (b : Nat) (hb : b < 256) (a : Option Addr) (cap : Nat) (w : World) (hr : Rd w a (L.map str)) :
    Calls Tryz.prog 51 #[.slice a L.length cap, .int .u8 b] w fun e w' => e = .returned (str (formG L b)) ∧ Below w.heap.size w w' := by
  by_cases hne : L = []
  · subst hne
    have h3 : b % 3 = 0 ∨ b % 3 = 1 ∨ b % 3 = 2 := by omega
    rcases h3 with h3 | h3 | h3
    all_goals
      have hm : ((b : Int) % 3) = ((b % 3 : Nat) : Int) := by simp
      rw [h3] at hm
      have hf : formG [] b = [[116, 114, 117, 101], [102, 97, 108, 115, 101], [33, 102, 97, 108, 115, 101]].getD (b % 3) [] := rfl
      rw [h3] at hf
      rw [hf]
      clear h3 hf
      go_enter Tryz.func51, Tryz.ntmps51
      go_wp2_with fail
      go_ret
      exact ⟨rfl, (Below.refl _ _).alloc (Nat.le_refl _) _⟩
  · have hlen : 1 ≤ L.length := List.length_pos_iff.2 hne
    have h0 : L[b / 8 % L.length]? = some (L.getD (b / 8 % L.length) []) := by
      rw [List.getD_eq_getElem?_getD, List.getElem?_eq_getElem (Nat.mod_lt _ (by omega))]; rfl
    have h1 : L[(b / 64 + b / 8 + 1) % L.length]? = some (L.getD ((b / 64 + b / 8 + 1) % L.length) []) := by
      rw [List.getD_eq_getElem?_getD, List.getElem?_eq_getElem (Nat.mod_lt _ (by omega))]; rfl
    have hform : ∀ k, b % 8 = k → formG L b = (if k = 0 ∨ k = 1 then L.getD (b / 8 % L.length) [] else if k = 2 then 33 :: L.getD (b / 8 % L.length) [] else
        if k = 3 then L.getD (b / 8 % L.length) [] ++ ([32, 38, 38, 32] ++ L.getD ((b / 64 + b / 8 + 1) % L.length) []) else
        if k = 4 then L.getD (b / 8 % L.length) [] ++ ([32, 124, 124, 32, 33] ++ L.getD ((b / 64 + b / 8 + 1) % L.length) []) else
        if k = 5 then [33, 40] ++ (L.getD (b / 8 % L.length) [] ++ ([32, 38, 38, 32] ++ (L.getD ((b / 64 + b / 8 + 1) % L.length) [] ++ [41]))) else
        if k = 6 then 33 :: (L.getD (b / 8 % L.length) [] ++ ([38, 38, 33] ++ L.getD ((b / 64 + b / 8 + 1) % L.length) [])) else [116, 114, 117, 101]) := by
      rintro k rfl
      unfold formG
      rw [if_neg hne]
    have hs0 := hs _ (List.mem_of_getElem? h0)
    have hs1 := hs _ (List.mem_of_getElem? h1)
    generalize formG L b = r at *
    generalize L.getD (b / 8 % L.length) [] = p at *
    generalize L.getD ((b / 64 + b / 8 + 1) % L.length) [] = q at *
    have HF := Lib.hid hform
    obtain ⟨b1, o1, rfl, hb1, x0⟩ := hr (b / 8 % L.length) (str p) (by rw [List.getElem?_map, h0]; rfl)
    obtain ⟨b2, o2, e2, hb2, x1⟩ := hr ((b / 64 + b / 8 + 1) % L.length) (str q) (by rw [List.getElem?_map, h1]; rfl)
    cases e2
    clear h0 h1 hr hform hs
    generalize hn : L.length = len at *
    clear hn hne L
    have e1 : ((b : Int) / 8 % (len : Int)) = ((b / 8 % len : Nat) : Int) := by simp
    have e2 : (((b : Int) / 64 + (b : Int) / 8 + 1) % (len : Int)) = (((b / 64 + b / 8 + 1) % len : Nat) : Int) := by simp
    have i1 : b / 8 % len < len := Nat.mod_lt _ (by omega)
    have i2 : (b / 64 + b / 8 + 1) % len < len := Nat.mod_lt _ (by omega)
    generalize b / 8 % len = ip at *
    generalize (b / 64 + b / 8 + 1) % len = iq at *
    have j0 : (0 : Int) ≤ (ip : Int) := by omega
    have j1 : (ip : Int) < (len : Int) := by omega
    have j2 : (0 : Int) ≤ (iq : Int) := by omega
    have j3 : (iq : Int) < (len : Int) := by omega
    go_enter Tryz.func51, Tryz.ntmps51
    go_upto_region 5 with fail
    clear e1 e2 i1 i2 j0 j1 j2 j3 x0 x1 hb1 hb2
    have h8 : b % 8 = 0 ∨ b % 8 = 1 ∨ b % 8 = 2 ∨ b % 8 = 3 ∨ b % 8 = 4 ∨ b % 8 = 5 ∨ b % 8 = 6 ∨ b % 8 = 7 := by omega
    rcases h8 with h8 | h8 | h8 | h8 | h8 | h8 | h8 | h8
    all_goals
      have hm : ((b : Int) % 8) = ((b % 8 : Nat) : Int) := by simp
      rw [h8] at hm
      have hrr := HF.out _ h8
      have HRR := Lib.hid hrr
      clear h8 hrr HF
      go_wp2_with fail
      all_goals first
        | (exfalso; omega)
        | (go_ret
           refine ⟨?_, Below.refl _ _⟩
           rw [HRR.out]
           first
            | rfl
            | (simp only [bytes_cat, Nat.reduceEqDiff, if_true, if_false, or_self, List.append_assoc]; rfl)
            | (simp [bytes_cat]; done))
end Go.Proofs.YtpekmohnjpbkgaaGreatDoor
