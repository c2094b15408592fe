/- The reference's small functions: constants, variables, Same. The reference's fixed names. -/
import Derived.Test.YtpekmohnjpbkgaaGreatDoorGroupD
import Derived.Test.YtpekmohnjpbkgaaGreatDoorGroupE
namespace Go.Proofs.YtpekmohnjpbkgaaGreatDoor
open Go Go.RowKit
set_option maxHeartbeats 1000000
set_option maxRecDepth 100000
attribute [local go_sem ↓] Go.wp_at_zero Go.wp_at_succ

theorem rconstant_any (b : Bool) (w : World) : Calls Tryz.prog 62 #[.bool b] w (DgPost w (constD b)) := by
  cases b
  all_goals
    go_enter Tryz.func62, Tryz.ntmps62
    go_wp2
  · exact bodyPost_ret (v := .agg #[.slice none 0 0, .int .i64 0]) (by simp [results, Tryz.results62, go_sem]) rfl ⟨none, 0, rfl, Rd.nil _ _, (by intro _ _ h; cases h), (Below.refl _ _).alloc (Nat.le_refl _) _⟩
  · exact bodyPost_ret (v := .agg #[.slice none 0 0, .int .i64 1]) (by simp [results, Tryz.results62, go_sem]) rfl ⟨none, 0, rfl, Rd.nil _ _, (by intro _ _ h; cases h), (Below.refl _ _).alloc (Nat.le_refl _) _⟩

theorem rvar_any (n : Int) (w : World) : Calls Tryz.prog 66 #[.int .i64 n] w (DgPost2 w (varR n).1 (varR n).2) := by
  have bad : (n < 0 ∨ 63 < n) → varR n = (⟨[], 0⟩, 1) := fun h => by unfold varR; rw [if_pos h]
  by_cases h1 : n < 0
  · rw [bad (.inl h1)]
    clear bad
    go_enter Tryz.func66, Tryz.ntmps66
    go_wp2
    exact bodyPost_ret (v := .tuple #[.agg #[.slice none 0 0, .int .i64 0], .int .i64 1]) (by simp [results, Tryz.results66, go_sem]) rfl ⟨none, 0, rfl, Rd.nil _ _, (fun b o e => by cases e), Mod.below (S := fun k => w.heap.size ≤ k) ((Mod.refl _ _).alloc _) (Nat.le_refl _) (fun k hk h => by omega)⟩
  by_cases h2 : 63 < n
  · rw [bad (.inr h2)]
    clear bad
    go_enter Tryz.func66, Tryz.ntmps66
    go_wp2
    exact bodyPost_ret (v := .tuple #[.agg #[.slice none 0 0, .int .i64 0], .int .i64 1]) (by simp [results, Tryz.results66, go_sem]) rfl ⟨none, 0, rfl, Rd.nil _ _, (fun b o e => by cases e), Mod.below (S := fun k => w.heap.size ≤ k) ((Mod.refl _ _).alloc _) (Nat.le_refl _) (fun k hk h => by omega)⟩
  · have e : varR n = (varD n, 0) := by unfold varR; rw [if_neg (by omega)]
    rw [e]
    clear bad e
    go_enter Tryz.func66, Tryz.ntmps66
    go_wp2
    have k2 := Blk.new (w.alloc (.cells #[.slice (some ⟨w.heap.size + 1, 0, none⟩) 1 1, .int .i64 2] 42)) #[.int .i64 n, .int .i64 0, .int .i64 1] 161
    have r2 := rd_one (b := ⟨n, 0, 1⟩) k2
    simp only [World.size_alloc] at r2
    exact bodyPost_ret (v := .tuple #[.agg #[.slice (some ⟨w.heap.size + 1, 0, none⟩) 1 1, .int .i64 2], .int .i64 0]) (by simp [results, Tryz.results66, go_sem]) rfl ⟨_, 1, rfl, r2, (fun b o e => by cases e; omega), Mod.below (S := fun k => w.heap.size ≤ k) (((Mod.refl _ _).alloc _).alloc _) (Nat.le_refl _) (fun k hk h => by omega)⟩

theorem rsame_eq (L M : List Br) (dr : Int) (a b : Option Addr) (ca cb : Nat) (w : World) (hl : L.length = M.length) (hL : L.length ≤ 1099511627700) (ra : Rd w a (brCells L)) (rb : Rd w b (brCells M)) :
    Calls Tryz.prog 60 #[.agg #[.slice a L.length ca, .int .i64 dr], .agg #[.slice b M.length cb, .int .i64 dr]] w fun e w' => e = .returned (.bool (decide (L = M))) ∧ Below w.heap.size w w' := by
  have HL := Lib.hid hl
  rw [← hl]
  clear hl
  generalize hn : L.length = len at *
  have HN := Lib.hid hn
  clear hn
  have hne : (((len : Nat) : Int) != ((len : Nat) : Int)) = false := by simp
  have hnd : (dr != dr) = false := by simp
  have k0 := (Blk.new w #[.slice a len ca, .int .i64 dr] 42).alloc (.cells #[.slice b len cb, .int .i64 dr] 42)
  have k1 := Blk.new (w.alloc (.cells #[.slice a len ca, .int .i64 dr] 42)) #[.slice b len cb, .int .i64 dr] 42
  have b0 : Below w.heap.size w ((w.alloc (.cells #[.slice a len ca, .int .i64 dr] 42)).alloc (.cells #[.slice b len cb, .int .i64 dr] 42)) := ((Below.refl _ _).alloc (Nat.le_refl _) _).alloc (by simp) _
  simp only [World.size_alloc] at k1
  have ra1 := ra.below b0
  have rb1 := rb.below b0
  go_enter Tryz.func60, Tryz.ntmps60
  go_wp2_with fail
  generalize ((w.alloc (.cells #[.slice a len ca, .int .i64 dr] 42)).alloc (.cells #[.slice b len cb, .int .i64 dr] 42)) = W at *
  go_loopw [5] (fun i wr => ∃ k n : Nat, k ≤ len ∧ i = .int .i64 k ∧ Hid (L.take k = M.take k) ∧ wr = W.drewN n) (fun i _ => len - (intOf i).toNat)
  case atStart => exact ⟨0, 0, Nat.zero_le _, rfl, rfl, rfl⟩
  case round =>
    obtain ⟨k, n, hk, rfl, ht, rfl⟩ := hrel
    have c0 := (k0.drewN n).cell 0
    have c1 := (k1.drewN n).cell 0
    have l0 := (k0.drewN n).lt
    have l1 := (k1.drewN n).lt
    simp at c0 c1
    by_cases hlt : k < len
    · obtain ⟨x, hx⟩ : ∃ x, L[k]? = some x := ⟨L[k]'(by have := HN.out; omega), List.getElem?_eq_getElem _⟩
      obtain ⟨y, hy⟩ : ∃ y, M[k]? = some y := ⟨M[k]'(by have := HN.out; have := HL.out; omega), List.getElem?_eq_getElem _⟩
      obtain ⟨b1, o1, rfl, hb1, x0, x1, x2⟩ := ra1.br hx
      obtain ⟨b2, o2, rfl, hb2, y0, y1, y2⟩ := rb1.br hy
      have HX := Lib.hid hx
      have HY := Lib.hid hy
      clear hx hy
      have i0 : (0 : Int) ≤ (k : Int) := by omega
      have i1 : (k : Int) < (len : Int) := by omega
      have hq := run_neq_br x y
      go_wp2_with fail
      go_quiet (fail)
      go_wp2_with fail
      · go_ret
        have h1 : (!decide (x = y)) = true := by assumption
        have h2 : decide (L = M) = false := decide_eq_false (fun e => by
          have h3 := HX.out
          rw [e, HY.out] at h3
          simp at h1
          exact h1 (Option.some.inj h3).symm)
        rw [h2]
        exact ⟨rfl, bdrewN (bdrewN b0 _) _⟩
      · have h1 : (!decide (x = y)) = false := by assumption
        have h2 : x = y := by simpa using h1
        go_roundw
        case rel => exact ⟨k + 1, _, by omega, by go_num, take_eq_succ ht.out HX.out (by rw [h2]; exact HY.out), rfl⟩
        case measure => simp [intOf]; omega
    · go_wp2_with fail
      go_ret
      have : k = len := by omega
      subst this
      have h1 := ht.out
      rw [List.take_of_length_le (by rw [HN.out]; exact Nat.le_refl _), List.take_of_length_le (by rw [← HL.out]; exact Nat.le_refl _)] at h1
      have h2 : decide (L = M) = true := decide_eq_true h1
      rw [h2]
      exact ⟨rfl, bdrewN b0 _⟩

/-- Same of the reference. -/
theorem rsame_any (d e : Dg) (a b : Option Addr) (ca cb : Nat) (w : World) (hd : d.nodes.length ≤ 1099511627700) (ra : Rd w a (brCells d.nodes)) (rb : Rd w b (brCells e.nodes)) :
    Calls Tryz.prog 60 #[.agg #[.slice a d.nodes.length ca, .int .i64 d.root], .agg #[.slice b e.nodes.length cb, .int .i64 e.root]] w fun r w' => r = .returned (.bool (decide (d = e))) ∧ Below w.heap.size w w' := by
  obtain ⟨dn, dr⟩ := d
  obtain ⟨en, er⟩ := e
  simp only at *
  by_cases h : dr = er
  · subst h
    by_cases hl : dn.length = en.length
    · have he : decide ((⟨dn, dr⟩ : Dg) = ⟨en, dr⟩) = decide (dn = en) := by simp
      rw [he]
      exact rsame_eq dn en dr a b ca cb w hl hd ra rb
    · have he : decide ((⟨dn, dr⟩ : Dg) = ⟨en, dr⟩) = false := by
        rw [decide_eq_false_iff_not]; intro e; cases e; exact hl rfl
      rw [he]
      have hb : (((dn.length : Nat) : Int) != ((en.length : Nat) : Int)) = true := by rw [bne_iff_ne]; omega
      have hnd : (dr != dr) = false := by simp
      clear he hl ra rb hd
      generalize dn.length = l1 at *
      generalize en.length = l2 at *
      go_enter Tryz.func60, Tryz.ntmps60
      go_wp2_with fail
      go_ret
      exact ⟨rfl, ((Below.refl _ _).alloc (Nat.le_refl _) _).alloc (by simp) _⟩
  · have he : decide ((⟨dn, dr⟩ : Dg) = ⟨en, er⟩) = false := by simp [h]
    rw [he]
    have hb : (dr != er) = true := by simpa using h
    clear h he
    go_enter Tryz.func60, Tryz.ntmps60
    go_wp2_with fail
    go_ret
    exact ⟨rfl, ((Below.refl _ _).alloc (Nat.le_refl _) _).alloc (by simp) _⟩
end Go.Proofs.YtpekmohnjpbkgaaGreatDoor

namespace Go.Proofs.YtpekmohnjpbkgaaGreatDoor
open Go Go.RowKit
set_option maxHeartbeats 1000000
set_option maxRecDepth 100000
attribute [local go_sem ↓] Go.wp_at_zero Go.wp_at_succ

/-- Fixed names. -/
def lettersT : List (List UInt8) := [[65], [66], [67], [68], [108, 111, 110, 103, 95, 110, 97, 109, 101], [95], [120, 49], [84, 82, 85, 69], [116], [102], [116, 114, 117], [102, 97, 108, 115, 101, 101]]
/-- Expressions over some names, as the reference makes them. -/
def formG (L : List (List UInt8)) (b : Nat) : List UInt8 :=
  if L = [] then [[116, 114, 117, 101], [102, 97, 108, 115, 101], [33, 102, 97, 108, 115, 101]].getD (b % 3) [] else
  let p := L.getD (b / 8 % L.length) []
  let q := L.getD ((b / 64 + b / 8 + 1) % L.length) []
  if b % 8 = 0 ∨ b % 8 = 1 then p else
  if b % 8 = 2 then 33 :: p else
  if b % 8 = 3 then p ++ ([32, 38, 38, 32] ++ q) else
  if b % 8 = 4 then p ++ ([32, 124, 124, 32, 33] ++ q) else
  if b % 8 = 5 then [33, 40] ++ (p ++ ([32, 38, 38, 32] ++ (q ++ [41]))) else
  if b % 8 = 6 then 33 :: (p ++ ([38, 38, 33] ++ q)) else [116, 114, 117, 101]
theorem Blk.rd {w : World} {k : Nat} {c : Array Value} {e : TypeId} (h : Blk w k c e) {cs : List Value} (hc : ∀ (j : Nat) (u : Value), cs[j]? = some u → c[j]? = some u) : Rd w (some ⟨k, 0, none⟩) cs :=
  fun j u hj => ⟨k, 0, rfl, h.lt, by rw [Nat.zero_add, h.cell]; exact hc j u hj⟩

theorem letters_any (n : Nat) (hn : n ≤ 12) (w : World) : Calls Tryz.prog 22 #[.int .i64 n] w fun e w' => ∃ a cap, e = .returned (.slice a n cap) ∧ Rd w' a ((lettersT.take n).map str) ∧ (∀ b o, a = some ⟨b, o, none⟩ → w.heap.size ≤ b) ∧ Below w.heap.size w w' := by
  have n0 : (0 : Int) ≤ (n : Int) := by omega
  have n1 : (n : Int) ≤ 12 := by omega
  have k := Blk.new w (lettersT.map str).toArray 9
  have b0 : Below w.heap.size w (w.alloc (.cells (lettersT.map str).toArray 9)) := (Below.refl _ _).alloc (Nat.le_refl _) _
  have hr : Rd (w.alloc (.cells (lettersT.map str).toArray 9)) (some ⟨w.heap.size, 0, none⟩) ((lettersT.take n).map str) := k.rd (fun j u hj => by
    rw [List.map_take, List.getElem?_take] at hj
    split at hj
    · rw [← Array.getElem?_toList]; exact hj
    · cases hj)
  go_enter Tryz.func22, Tryz.ntmps22
  go_wp2_with fail
  go_ret
  exact ⟨_, _, rfl, hr, (fun b o e => by cases e; exact Nat.le_refl _), b0⟩
end Go.Proofs.YtpekmohnjpbkgaaGreatDoor
