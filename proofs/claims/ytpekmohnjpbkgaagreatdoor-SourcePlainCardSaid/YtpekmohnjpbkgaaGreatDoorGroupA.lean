/- Reduced ordered decision diagrams as lists of branches, without Go and memory: what a number means, when two numbers mean the same, and the canonical numbering of what a root reaches. What memory holds, as lists: slices that are read, slices that the call owns, maps; without any program. -/
import Derived.WalkKit
import Derived.WalkSpells
import Derived.WalkLawsBesides
import Derived.Lib.Hide
import Derived.BigQuiet
import Derived.Deep.QuietTactic
import Derived.Deep.LoopGhost
import Derived.Deep.RegionHeld3
import Derived.Deep.AppendLies
import Derived.StillTailTactics
import Derived.MapKept
import Derived.WideKeyRuns
namespace Go.Proofs.YtpekmohnjpbkgaaGreatDoor

structure Br where
  var : Int
  low : Int
  high : Int
  deriving DecidableEq, Inhabited

structure Dg where
  nodes : List Br
  root : Int
  deriving DecidableEq, Inhabited

abbrev Cfg := Nat → Bool

theorem list_snoc {α : Type} {P : List α → Prop} (h0 : P []) (h1 : ∀ l a, P l → P (l ++ [a])) : ∀ l, P l := by
  have key : ∀ m : List α, P m.reverse := by
    intro m
    induction m with
    | nil => exact h0
    | cons a m ih => rw [List.reverse_cons]; exact h1 _ _ ih
  intro l
  have := key l.reverse
  rwa [List.reverse_reverse] at this

def nodeAt (N : List Br) (n : Int) : Br := N.getD (n - 2).toNat default

def levelN (N : List Br) (n : Int) : Int := if n < 2 then 64 else (nodeAt N n).var

structure BrOk (N : List Br) (i : Nat) (b : Br) : Prop where
  v0 : 0 ≤ b.var
  v1 : b.var ≤ 63
  l0 : 0 ≤ b.low
  h0 : 0 ≤ b.high
  l1 : b.low ≤ i + 1
  h1 : b.high ≤ i + 1
  ne : b.low ≠ b.high
  lv : b.var < levelN N b.low
  hv : b.var < levelN N b.high

def Ord (N : List Br) : Prop := ∀ i b, N[i]? = some b → BrOk N i b

/-- What the numbers 0, 1, 2, .. mean. -/
def sems (N : List Br) : List (Cfg → Bool) :=
  N.foldl (fun acc b => acc ++ [fun c => if c b.var.toNat then acc.getD b.high.toNat (fun _ => false) c else acc.getD b.low.toNat (fun _ => false) c]) [fun _ => false, fun _ => true]

def den (N : List Br) (n : Int) : Cfg → Bool := (sems N).getD n.toNat (fun _ => false)

theorem sems_snoc (N : List Br) (b : Br) : sems (N ++ [b]) = sems N ++ [fun c => if c b.var.toNat then den N b.high c else den N b.low c] := by
  simp [sems, List.foldl_append, den]

theorem sems_length (N : List Br) : (sems N).length = N.length + 2 := by
  revert N
  refine list_snoc rfl ?_
  intro N b ih
  rw [sems_snoc]; simp [ih]

theorem den_append_one (N : List Br) (b : Br) (n : Int) (h : n < N.length + 2) : den (N ++ [b]) n = den N n := by
  unfold den
  rw [sems_snoc]
  have hl := sems_length N
  have : n.toNat < (sems N).length := by omega
  simp [List.getD, List.getElem?_append_left this]

theorem den_append (N M : List Br) (n : Int) (h : n < N.length + 2) : den (N ++ M) n = den N n := by
  revert M
  refine list_snoc (by simp) ?_
  intro M b ih
  rw [← List.append_assoc, den_append_one _ _ _ (by simp; omega), ih]

theorem den_last (N : List Br) (b : Br) : den (N ++ [b]) (N.length + 2 : Nat) = fun c => if c b.var.toNat then den N b.high c else den N b.low c := by
  have e : den (N ++ [b]) (N.length + 2 : Nat) = (sems N ++ [fun (c : Cfg) => if c b.var.toNat then den N b.high c else den N b.low c]).getD (sems N).length (fun _ => false) := by
    unfold den
    rw [sems_snoc, sems_length]
    rfl
  rw [e]
  simp [List.getD]

theorem den_zero (N : List Br) : den N 0 = fun _ => false := by
  have := den_append [] N 0 (by simp)
  rw [List.nil_append] at this
  rw [this]; rfl
theorem den_one (N : List Br) : den N 1 = fun _ => true := by
  have := den_append [] N 1 (by simp)
  rw [List.nil_append] at this
  rw [this]; rfl

theorem split_at {N : List Br} {i : Nat} {b : Br} (h : N[i]? = some b) : ∃ A B, N = A ++ [b] ++ B ∧ A.length = i := by
  obtain ⟨hi, hb⟩ := List.getElem?_eq_some_iff.1 h
  refine ⟨N.take i, N.drop (i + 1), ?_, by simp; omega⟩
  rw [List.append_assoc, List.singleton_append, ← hb, List.getElem_cons_drop, List.take_append_drop]

/-- What a branch means. -/
theorem den_node {N : List Br} (hN : Ord N) {i : Nat} {b : Br} (h : N[i]? = some b) (c : Cfg) :
    den N ((i : Int) + 2) c = if c b.var.toNat then den N b.high c else den N b.low c := by
  obtain ⟨A, B, rfl, hA⟩ := split_at h
  have hb := hN _ _ h
  have h1 := hb.l1
  have h2 := hb.h1
  rw [den_append _ B _ (by simp; omega), den_append (A ++ [b]) B b.high (by simp; omega), den_append (A ++ [b]) B b.low (by simp; omega)]
  rw [den_append_one A b b.high (by omega), den_append_one A b b.low (by omega)]
  have := den_last A b
  rw [hA] at this
  rw [show ((i : Int) + 2) = ((i + 2 : Nat) : Int) from rfl, this]

theorem nodeAt_of {N : List Br} {i : Nat} {b : Br} (h : N[i]? = some b) : nodeAt N ((i : Int) + 2) = b := by
  unfold nodeAt
  simp [List.getD, h]

theorem levelN_of {N : List Br} {i : Nat} {b : Br} (h : N[i]? = some b) : levelN N ((i : Int) + 2) = b.var := by
  unfold levelN
  rw [if_neg (by omega), nodeAt_of h]

theorem num_cases {N : List Br} {n : Int} (h0 : 0 ≤ n) (h1 : n < N.length + 2) :
    n = 0 ∨ n = 1 ∨ ∃ (i : Nat) (b : Br), N[i]? = some b ∧ n = (i : Int) + 2 := by
  by_cases h : n < 2
  · have : n = 0 ∨ n = 1 := by omega
    rcases this with h | h
    · exact .inl h
    · exact .inr (.inl h)
  · refine .inr (.inr ⟨(n - 2).toNat, N[(n - 2).toNat]'(by omega), List.getElem?_eq_getElem _, by omega⟩)

theorem levelN_append {N M : List Br} {n : Int} (h : n < N.length + 2) : levelN (N ++ M) n = levelN N n := by
  unfold levelN nodeAt
  split
  · rfl
  · have : (n - 2).toNat < N.length := by omega
    simp [List.getD, List.getElem?_append_left this]

theorem Ord.nil : Ord [] := fun i b h => by simp at h

theorem BrOk.mono {N M : List Br} {i : Nat} {b : Br} (hi : i < N.length + 1) (h : BrOk N i b) : BrOk (N ++ M) i b :=
  ⟨h.v0, h.v1, h.l0, h.h0, h.l1, h.h1, h.ne, by rw [levelN_append (by have := h.l1; omega)]; exact h.lv, by rw [levelN_append (by have := h.h1; omega)]; exact h.hv⟩

theorem BrOk.back {N M : List Br} {i : Nat} {b : Br} (hi : i < N.length + 1) (h : BrOk (N ++ M) i b) : BrOk N i b :=
  ⟨h.v0, h.v1, h.l0, h.h0, h.l1, h.h1, h.ne, by have := h.lv; rw [levelN_append (by have := h.l1; omega)] at this; exact this, by have := h.hv; rw [levelN_append (by have := h.h1; omega)] at this; exact this⟩

theorem Ord.snoc {N : List Br} {b : Br} (hN : Ord N) (hb : BrOk N N.length b) : Ord (N ++ [b]) := by
  intro i x hx
  rcases Nat.lt_trichotomy i N.length with h | h | h
  · rw [List.getElem?_append_left h] at hx
    exact (hN i x hx).mono (by omega)
  · subst h
    simp at hx
    subst hx
    exact hb.mono (by omega)
  · rw [List.getElem?_eq_none (by simp; omega)] at hx
    cases hx

theorem level_le {N : List Br} (hN : Ord N) {n : Int} (h0 : 0 ≤ n) (h1 : n < N.length + 2) : 0 ≤ levelN N n ∧ levelN N n ≤ 64 := by
  rcases num_cases h0 h1 with rfl | rfl | ⟨i, b, hb, rfl⟩
  · simp [levelN]
  · simp [levelN]
  · rw [levelN_of hb]
    have := hN _ _ hb
    have h1 := this.v0
    have h2 := this.v1
    omega

def upd (c : Cfg) (v : Nat) (x : Bool) : Cfg := fun k => if k = v then x else c k
theorem upd_same (c : Cfg) (v : Nat) (x : Bool) : upd c v x v = x := by simp [upd]
theorem upd_other (c : Cfg) {v k : Nat} (x : Bool) (h : k ≠ v) : upd c v x k = c k := by simp [upd, h]
theorem upd_self (c : Cfg) (v : Nat) : upd c v (c v) = c := by funext k; simp only [upd]; split <;> simp_all

/-- A number does not hang on the conditions before its level. -/
theorem den_free {N : List Br} (hN : Ord N) : ∀ (k : Nat) (n : Int), n < k → 0 ≤ n → n < N.length + 2 → ∀ (c : Cfg) (v : Nat) (x : Bool), (v : Int) < levelN N n → den N n (upd c v x) = den N n c := by
  intro k
  induction k with
  | zero => intro n h h0; omega
  | succ k ih =>
    intro n hk h0 h1 c v x hv
    rcases num_cases h0 h1 with rfl | rfl | ⟨i, b, hb, rfl⟩
    · simp [den_zero]
    · simp [den_one]
    · rw [levelN_of hb] at hv
      have ok := hN _ _ hb
      have a1 := ok.l1
      have a2 := ok.h1
      have a3 := ok.lv
      have a4 := ok.hv
      have a5 := ok.v0
      have hi : i < N.length := (List.getElem?_eq_some_iff.1 hb).1
      rw [den_node hN hb, den_node hN hb, upd_other c x (by omega), ih b.high (by omega) ok.h0 (by omega) c v x (by omega), ih b.low (by omega) ok.l0 (by omega) c v x (by omega)]

theorem den_free' {N : List Br} (hN : Ord N) {n : Int} (h0 : 0 ≤ n) (h1 : n < N.length + 2) (c : Cfg) (v : Nat) (x : Bool) (hv : (v : Int) < levelN N n) : den N n (upd c v x) = den N n c :=
  den_free hN (n.toNat + 1) n (by omega) h0 h1 c v x hv

theorem den_low {N : List Br} (hN : Ord N) {i : Nat} {b : Br} (h : N[i]? = some b) (c : Cfg) : den N b.low c = den N ((i : Int) + 2) (upd c b.var.toNat false) := by
  have ok := hN _ _ h
  have hi : i < N.length := (List.getElem?_eq_some_iff.1 h).1
  have a1 := ok.l1
  have a3 := ok.lv
  have a5 := ok.v0
  rw [den_node hN h, upd_same]
  simp only [Bool.false_eq_true, if_false]
  rw [den_free' hN ok.l0 (by omega) c _ false (by omega)]

theorem den_high {N : List Br} (hN : Ord N) {i : Nat} {b : Br} (h : N[i]? = some b) (c : Cfg) : den N b.high c = den N ((i : Int) + 2) (upd c b.var.toNat true) := by
  have ok := hN _ _ h
  have hi : i < N.length := (List.getElem?_eq_some_iff.1 h).1
  have a1 := ok.h1
  have a3 := ok.hv
  have a5 := ok.v0
  rw [den_node hN h, upd_same]
  simp only [if_true]
  rw [den_free' hN ok.h0 (by omega) c _ true (by omega)]

/-- Branches that are all different: numbers that mean the same are the same. -/
theorem den_inj {N : List Br} (hN : Ord N) (hd : N.Nodup) : ∀ (k : Nat) (n m : Int), n < k → m < k → 0 ≤ n → 0 ≤ m → n < N.length + 2 → m < N.length + 2 → den N n = den N m → n = m := by
  intro k
  induction k with
  | zero => intro n m h1 _ h2; omega
  | succ k ih =>
    have key : ∀ (i : Nat) (b : Br), N[i]? = some b → (i : Int) + 2 < k + 1 → ∀ m : Int, m < k + 1 → 0 ≤ m → m < N.length + 2 → b.var ≤ levelN N m → den N ((i : Int) + 2) = den N m → (i : Int) + 2 = m := by
      intro i b hb hik m hm m0 m1 hlev he
      have ok := hN _ _ hb
      have a1 := ok.l1
      have a2 := ok.h1
      have a5 := ok.v0
      have hi : i < N.length := (List.getElem?_eq_some_iff.1 hb).1
      by_cases hlt : b.var < levelN N m
      · exfalso
        have : den N b.low = den N b.high := by
          funext c
          rw [den_low hN hb, den_high hN hb, he, den_free' hN m0 m1 c _ false (by omega), den_free' hN m0 m1 c _ true (by omega)]
        exact ok.ne (ih b.low b.high (by omega) (by omega) ok.l0 ok.h0 (by omega) (by omega) this)
      · rcases num_cases m0 m1 with rfl | rfl | ⟨j, d, hj, rfl⟩
        · have h1 : levelN N 0 = 64 := by simp [levelN]
          have := ok.v1
          omega
        · have h1 : levelN N 1 = 64 := by simp [levelN]
          have := ok.v1
          omega
        · rw [levelN_of hj] at hlt hlev
          have hv : b.var = d.var := by omega
          have okd := hN _ _ hj
          have b1 := okd.l1
          have b2 := okd.h1
          have hjl : j < N.length := (List.getElem?_eq_some_iff.1 hj).1
          have el : b.low = d.low := by
            refine ih b.low d.low (by omega) (by omega) ok.l0 okd.l0 (by omega) (by omega) ?_
            funext c
            rw [den_low hN hb, den_low hN hj, he, hv]
          have eh : b.high = d.high := by
            refine ih b.high d.high (by omega) (by omega) ok.h0 okd.h0 (by omega) (by omega) ?_
            funext c
            rw [den_high hN hb, den_high hN hj, he, hv]
          have e : b = d := by cases b; cases d; simp_all
          subst e
          have hij : i = j := by
            have hi' := List.getElem?_eq_some_iff.1 hb
            have hj' := List.getElem?_eq_some_iff.1 hj
            exact (List.getElem_inj hd).1 (hi'.2.trans hj'.2.symm)
          omega
    intro n m hn hm n0 m0 n1 m1 he
    rcases num_cases n0 n1 with rfl | rfl | ⟨i, b, hb, rfl⟩
    · rcases num_cases m0 m1 with rfl | rfl | ⟨j, d, hj, rfl⟩
      · rfl
      · have := congrFun he (fun _ => false)
        simp [den_zero, den_one] at this
      · refine (key j d hj (by omega) 0 (by omega) (by omega) (by omega) ?_ he.symm).symm
        have := (hN _ _ hj).v1
        simp [levelN]; omega
    · rcases num_cases m0 m1 with rfl | rfl | ⟨j, d, hj, rfl⟩
      · have := congrFun he (fun _ => false)
        simp [den_zero, den_one] at this
      · rfl
      · refine (key j d hj (by omega) 1 (by omega) (by omega) (by omega) ?_ he.symm).symm
        have := (hN _ _ hj).v1
        simp [levelN]; omega
    · by_cases h : b.var ≤ levelN N m
      · exact key i b hb (by omega) m (by omega) m0 m1 h he
      · rcases num_cases m0 m1 with rfl | rfl | ⟨j, d, hj, rfl⟩
        · have := (hN _ _ hb).v1
          simp [levelN] at h; omega
        · have := (hN _ _ hb).v1
          simp [levelN] at h; omega
        · refine (key j d hj (by omega) ((i : Int) + 2) (by omega) (by omega) n1 ?_ he.symm).symm
          rw [levelN_of hj] at h
          rw [levelN_of hb]
          omega

theorem den_inj' {N : List Br} (hN : Ord N) (hd : N.Nodup) {n m : Int} (n0 : 0 ≤ n) (m0 : 0 ≤ m) (n1 : n < N.length + 2) (m1 : m < N.length + 2) (h : den N n = den N m) : n = m :=
  den_inj hN hd (n.toNat + m.toNat + 1) n m (by omega) (by omega) n0 m0 n1 m1 h

/-- A branch hangs on its own condition. -/
theorem den_hangs {N : List Br} (hN : Ord N) (hd : N.Nodup) {i : Nat} {b : Br} (h : N[i]? = some b) : ∃ c, den N ((i : Int) + 2) (upd c b.var.toNat false) ≠ den N ((i : Int) + 2) (upd c b.var.toNat true) := by
  have ok := hN _ _ h
  have hi : i < N.length := (List.getElem?_eq_some_iff.1 h).1
  have a1 := ok.l1
  have a2 := ok.h1
  by_cases hc : ∃ c, den N b.low c ≠ den N b.high c
  · obtain ⟨c, hc⟩ := hc
    exact ⟨c, by rw [← den_low hN h, ← den_high hN h]; exact hc⟩
  · exfalso
    have : den N b.low = den N b.high := by
      funext c
      by_cases hx : den N b.low c = den N b.high c
      · exact hx
      · exact absurd ⟨c, hx⟩ hc
    exact ok.ne (den_inj' hN hd ok.l0 ok.h0 (by omega) (by omega) this)

/-- Two numbers, of two lists, that mean the same have one level. -/
theorem level_eq {N M : List Br} (hN : Ord N) (hdN : N.Nodup) (hM : Ord M) (hdM : M.Nodup) {n m : Int} (n0 : 0 ≤ n) (n1 : n < N.length + 2) (m0 : 0 ≤ m) (m1 : m < M.length + 2) (h : den N n = den M m) : levelN N n = levelN M m := by
  have key : ∀ (N M : List Br), Ord N → N.Nodup → Ord M → ∀ n m : Int, 0 ≤ n → n < N.length + 2 → 0 ≤ m → m < M.length + 2 → den N n = den M m → levelN M m ≤ levelN N n := by
    intro N M hN hdN hM n m n0 n1 m0 m1 h
    have hm := level_le hM m0 m1
    rcases num_cases n0 n1 with rfl | rfl | ⟨i, b, hb, rfl⟩
    · simp [levelN] at hm ⊢; omega
    · simp [levelN] at hm ⊢; omega
    · rw [levelN_of hb]
      by_cases hlt : levelN M m ≤ b.var
      · exact hlt
      · exfalso
        obtain ⟨c, hc⟩ := den_hangs hN hdN hb
        have a5 := (hN _ _ hb).v0
        rw [h, den_free' hM m0 m1 c _ false (by omega), den_free' hM m0 m1 c _ true (by omega)] at hc
        exact hc rfl
  have h1 := key N M hN hdN hM n m n0 n1 m0 m1 h
  have h2 := key M N hM hdM hN m n m0 m1 n0 n1 h.symm
  omega

/-! ### The canonical numbering -/

structure VS where
  out : List Br
  memo : Int → Option Int

def VS.init : VS := ⟨[], fun n => if n = 0 then some 0 else if n = 1 then some 1 else none⟩

def setMemo (f : Int → Option Int) (n m : Int) : Int → Option Int := fun k => if k = n then some m else f k

def visit (N : List Br) : Nat → Int → VS → Int × VS
  | 0, _, s => (0, s)
  | f + 1, n, s =>
    match s.memo n with
    | some m => (m, s)
    | none =>
      let b := nodeAt N n
      let l := visit N f b.low s
      let h := visit N f b.high l.2
      let out := h.2.out ++ [⟨b.var, l.1, h.1⟩]
      ((out.length : Int) + 1, ⟨out, setMemo h.2.memo n ((out.length : Int) + 1)⟩)

def numbered (N : List Br) (r : Int) : Dg :=
  let p := visit N (r.toNat + 1) r VS.init
  ⟨p.2.out, p.1⟩

/-- What the walk keeps: over the list N. -/
structure VInv (N : List Br) (s : VS) : Prop where
  zero : s.memo 0 = some 0
  one : s.memo 1 = some 1
  ord : Ord s.out
  dom : ∀ n m, s.memo n = some m → 0 ≤ n ∧ n < N.length + 2
  rng : ∀ n m, s.memo n = some m → 0 ≤ m ∧ m < s.out.length + 2
  sem : ∀ n m, s.memo n = some m → den s.out m = den N n
  lev : ∀ n m, s.memo n = some m → levelN s.out m = levelN N n
  big : ∀ n m, s.memo n = some m → (2 ≤ n ↔ 2 ≤ m)
  hit : ∀ i : Nat, i < s.out.length → ∃ n, s.memo n = some ((i : Int) + 2)
  inj : ∀ n n' m, s.memo n = some m → s.memo n' = some m → n = n'

theorem VInv.init (N : List Br) : VInv N VS.init := by
  have key : ∀ n m, VS.init.memo n = some m → (n = 0 ∧ m = 0) ∨ (n = 1 ∧ m = 1) := by
    intro n m h
    simp only [VS.init] at h
    split at h
    · left; simp_all
    · split at h
      · right; simp_all
      · cases h
  refine ⟨rfl, rfl, Ord.nil, ?_, ?_, ?_, ?_, ?_, ?_, ?_⟩
  · intro n m h; rcases key n m h with ⟨rfl, rfl⟩ | ⟨rfl, rfl⟩ <;> omega
  · intro n m h; rcases key n m h with ⟨rfl, rfl⟩ | ⟨rfl, rfl⟩ <;> simp [VS.init]
  · intro n m h
    rcases key n m h with ⟨rfl, rfl⟩ | ⟨rfl, rfl⟩
    · rw [den_zero, den_zero]
    · rw [den_one, den_one]
  · intro n m h; rcases key n m h with ⟨rfl, rfl⟩ | ⟨rfl, rfl⟩ <;> simp [levelN]
  · intro n m h; rcases key n m h with ⟨rfl, rfl⟩ | ⟨rfl, rfl⟩ <;> omega
  · intro i h; simp [VS.init] at h
  · intro n n' m h h'
    rcases key n m h with ⟨rfl, rfl⟩ | ⟨rfl, rfl⟩ <;> rcases key n' _ h' with ⟨rfl, h2⟩ | ⟨rfl, h2⟩ <;> omega

theorem den_last' (N : List Br) (b : Br) (n : Int) (h : n = N.length + 2) : den (N ++ [b]) n = fun c => if c b.var.toNat then den N b.high c else den N b.low c := by
  have := den_last N b
  rw [h]
  exact this

theorem levelN_last (N : List Br) (b : Br) (n : Int) (h : n = N.length + 2) : levelN (N ++ [b]) n = b.var := by
  have := levelN_of (N := N ++ [b]) (i := N.length) (b := b) (by simp)
  rw [h]
  exact this

theorem VInv.out_nodup {N : List Br} {s : VS} (hN : Ord N) (hd : N.Nodup) (hv : VInv N s) : s.out.Nodup := by
  rw [List.nodup_iff_pairwise_ne, List.pairwise_iff_getElem]
  intro i j hi hj hij he
  obtain ⟨n, hn⟩ := hv.hit i hi
  obtain ⟨m, hm⟩ := hv.hit j hj
  have hbi : s.out[i]? = some s.out[i] := List.getElem?_eq_getElem hi
  have hbj : s.out[j]? = some s.out[i] := by rw [he]; exact List.getElem?_eq_getElem hj
  have e : den s.out ((i : Int) + 2) = den s.out ((j : Int) + 2) := by
    funext c
    rw [den_node hv.ord hbi, den_node hv.ord hbj]
  rw [hv.sem _ _ hn, hv.sem _ _ hm] at e
  have d1 := hv.dom _ _ hn
  have d2 := hv.dom _ _ hm
  have := den_inj' hN hd d1.1 d2.1 d1.2 d2.2 e
  subst this
  rw [hn] at hm
  have := Option.some.inj hm
  omega

/-- What one visit leaves. -/
structure VPost (N : List Br) (n : Int) (s : VS) (p : Int × VS) : Prop where
  inv : VInv N p.2
  here : p.2.memo n = some p.1
  keep : ∀ k m, s.memo k = some m → p.2.memo k = some m
  above : ∀ k, n < k → p.2.memo k = s.memo k
  grow : ∃ M, p.2.out = s.out ++ M

theorem visit_ok {N : List Br} (hN : Ord N) : ∀ (f : Nat) (n : Int) (s : VS), VInv N s → 0 ≤ n → n < N.length + 2 → n < f → VPost N n s (visit N f n s) := by
  intro f
  induction f with
  | zero => intro n s _ h0 _ hf; omega
  | succ f ih =>
    intro n s hv h0 h1 hf
    unfold visit
    cases hm : s.memo n with
    | some m =>
      exact ⟨hv, hm, fun _ _ h => h, fun _ _ => rfl, ⟨[], by simp⟩⟩
    | none =>
      rcases num_cases h0 h1 with rfl | rfl | ⟨i, b, hb, rfl⟩
      · rw [hv.zero] at hm; cases hm
      · rw [hv.one] at hm; cases hm
      · have ok := hN _ _ hb
        have a1 := ok.l1
        have a2 := ok.h1
        have hi : i < N.length := (List.getElem?_eq_some_iff.1 hb).1
        simp only [nodeAt_of hb]
        have pl := ih b.low s hv ok.l0 (by omega) (by omega)
        generalize visit N f b.low s = l at pl
        have ph := ih b.high l.2 pl.inv ok.h0 (by omega) (by omega)
        generalize visit N f b.high l.2 = h at ph
        have hl1 := ph.keep _ _ pl.here
        have rl := ph.inv.rng _ _ hl1
        have rh := ph.inv.rng _ _ ph.here
        have hnone : h.2.memo ((i : Int) + 2) = none := by rw [ph.above _ (by omega), pl.above _ (by omega)]; exact hm
        have bok : BrOk h.2.out h.2.out.length ⟨b.var, l.1, h.1⟩ := by
          refine ⟨ok.v0, ok.v1, rl.1, rh.1, by have := rl.2; simp only; omega, by have := rh.2; simp only; omega, ?_, ?_, ?_⟩
          · intro e
            simp only at e
            have hh := ph.here
            rw [← e] at hh
            exact ok.ne (ph.inv.inj _ _ _ hl1 hh)
          · simp only
            rw [ph.inv.lev _ _ hl1]; exact ok.lv
          · simp only
            rw [ph.inv.lev _ _ ph.here]; exact ok.hv
        have hlen : ((h.2.out ++ [(⟨b.var, l.1, h.1⟩ : Br)]).length : Int) + 1 = (h.2.out.length : Int) + 2 := by simp; omega
        rw [hlen]
        have memo_cases : ∀ k m, setMemo h.2.memo ((i : Int) + 2) ((h.2.out.length : Int) + 2) k = some m → (k = (i : Int) + 2 ∧ m = (h.2.out.length : Int) + 2) ∨ (k ≠ (i : Int) + 2 ∧ h.2.memo k = some m) := by
          intro k m hk
          unfold setMemo at hk
          split at hk
          · rename_i e; left; exact ⟨e, (Option.some.inj hk).symm⟩
          · rename_i e; right; exact ⟨e, hk⟩
        have memo_old : ∀ k m, h.2.memo k = some m → setMemo h.2.memo ((i : Int) + 2) ((h.2.out.length : Int) + 2) k = some m := by
          intro k m hk
          unfold setMemo
          split
          · rename_i e; rw [e, hnone] at hk; cases hk
          · exact hk
        refine ⟨⟨memo_old _ _ ph.inv.zero, memo_old _ _ ph.inv.one, ph.inv.ord.snoc bok, ?_, ?_, ?_, ?_, ?_, ?_, ?_⟩, by simp [setMemo], fun k m hk => memo_old _ _ (ph.keep _ _ (pl.keep _ _ hk)), ?_, ?_⟩
        · intro k m hk
          rcases memo_cases k m hk with ⟨rfl, rfl⟩ | ⟨_, hk⟩
          · omega
          · exact ph.inv.dom _ _ hk
        · intro k m hk
          simp only [List.length_append, List.length_cons, List.length_nil]
          rcases memo_cases k m hk with ⟨rfl, rfl⟩ | ⟨_, hk⟩
          · omega
          · have := ph.inv.rng _ _ hk; omega
        · intro k m hk
          rcases memo_cases k m hk with ⟨rfl, rfl⟩ | ⟨_, hk⟩
          · rw [den_last' _ _ _ rfl]
            funext c
            rw [den_node hN hb]
            simp only
            rw [ph.inv.sem _ _ hl1, ph.inv.sem _ _ ph.here]
          · rw [den_append_one _ _ _ (by have := ph.inv.rng _ _ hk; omega)]
            exact ph.inv.sem _ _ hk
        · intro k m hk
          rcases memo_cases k m hk with ⟨rfl, rfl⟩ | ⟨_, hk⟩
          · rw [levelN_last _ _ _ rfl, levelN_of hb]
          · rw [levelN_append (by have := ph.inv.rng _ _ hk; omega)]
            exact ph.inv.lev _ _ hk
        · intro k m hk
          rcases memo_cases k m hk with ⟨rfl, rfl⟩ | ⟨_, hk⟩
          · omega
          · exact ph.inv.big _ _ hk
        · intro j hj
          simp only [List.length_append, List.length_cons, List.length_nil] at hj
          by_cases hjl : j < h.2.out.length
          · obtain ⟨k, hk⟩ := ph.inv.hit j hjl
            exact ⟨k, memo_old _ _ hk⟩
          · have : j = h.2.out.length := by omega
            subst this
            exact ⟨(i : Int) + 2, by simp [setMemo]⟩
        · intro k k' m hk hk'
          rcases memo_cases k m hk with ⟨rfl, rfl⟩ | ⟨_, hk⟩
          · rcases memo_cases k' _ hk' with ⟨rfl, _⟩ | ⟨_, hk'⟩
            · rfl
            · have := ph.inv.rng _ _ hk'; omega
          · rcases memo_cases k' m hk' with ⟨rfl, rfl⟩ | ⟨_, hk'⟩
            · have := ph.inv.rng _ _ hk; omega
            · exact ph.inv.inj _ _ _ hk hk'
        · intro k hk
          simp only [setMemo]
          rw [if_neg (by omega), ph.above _ (by omega), pl.above _ (by omega)]
        · obtain ⟨M1, e1⟩ := pl.grow
          obtain ⟨M2, e2⟩ := ph.grow
          exact ⟨M1 ++ M2 ++ [⟨b.var, l.1, h.1⟩], by simp only; rw [e2, e1]; simp⟩

/-- Two lists, two numbers that mean the same: the walks leave the same. -/
theorem visit_sim {N M : List Br} (hN : Ord N) (hdN : N.Nodup) (hM : Ord M) (hdM : M.Nodup) : ∀ (f g : Nat) (n m : Int) (s t : VS), VInv N s → VInv M t → s.out = t.out →
    (∀ a b : Int, 0 ≤ a → a < N.length + 2 → 0 ≤ b → b < M.length + 2 → den N a = den M b → s.memo a = t.memo b) →
    0 ≤ n → n < N.length + 2 → n < f → 0 ≤ m → m < M.length + 2 → m < g → den N n = den M m →
    (visit N f n s).1 = (visit M g m t).1 ∧ (visit N f n s).2.out = (visit M g m t).2.out ∧
    (∀ a b : Int, 0 ≤ a → a < N.length + 2 → 0 ≤ b → b < M.length + 2 → den N a = den M b → (visit N f n s).2.memo a = (visit M g m t).2.memo b) := by
  intro f
  induction f with
  | zero => intro g n m s t _ _ _ _ h0 _ hf; omega
  | succ f ih =>
    intro g n m s t hs ht ho hr n0 n1 nf m0 m1 mg he
    cases g with
    | zero => omega
    | succ g =>
      have hnm := hr n m n0 n1 m0 m1 he
      unfold visit
      cases hm : s.memo n with
      | some x =>
        rw [hnm] at hm
        rw [hm]
        exact ⟨rfl, ho, hr⟩
      | none =>
        rw [hnm] at hm
        rw [hm]
        simp only
        have hm' : s.memo n = none := hnm.trans hm
        rcases num_cases n0 n1 with rfl | rfl | ⟨i, b, hb, rfl⟩
        · rw [hs.zero] at hm'; cases hm'
        · rw [hs.one] at hm'; cases hm'
        rcases num_cases m0 m1 with rfl | rfl | ⟨j, d, hj, rfl⟩
        · rw [ht.zero] at hm; cases hm
        · rw [ht.one] at hm; cases hm
        have ok := hN _ _ hb
        have a1 := ok.l1
        have a2 := ok.h1
        have hi : i < N.length := (List.getElem?_eq_some_iff.1 hb).1
        have okd := hM _ _ hj
        have b1 := okd.l1
        have b2 := okd.h1
        have hjl : j < M.length := (List.getElem?_eq_some_iff.1 hj).1
        have hlev := level_eq hN hdN hM hdM n0 n1 m0 m1 he
        rw [levelN_of hb, levelN_of hj] at hlev
        have el : den N b.low = den M d.low := by
          funext c; rw [den_low hN hb, den_low hM hj, he, hlev]
        have eh : den N b.high = den M d.high := by
          funext c; rw [den_high hN hb, den_high hM hj, he, hlev]
        rw [nodeAt_of hb, nodeAt_of hj]
        have pl := visit_ok hN f b.low s hs ok.l0 (by omega) (by omega)
        have ql := visit_ok hM g d.low t ht okd.l0 (by omega) (by omega)
        obtain ⟨r1, r2, r3⟩ := ih g b.low d.low s t hs ht ho hr ok.l0 (by omega) (by omega) okd.l0 (by omega) (by omega) el
        generalize visit N f b.low s = l at *
        generalize visit M g d.low t = l' at *
        have ph := visit_ok hN f b.high l.2 pl.inv ok.h0 (by omega) (by omega)
        have qh := visit_ok hM g d.high l'.2 ql.inv okd.h0 (by omega) (by omega)
        obtain ⟨q1, q2, q3⟩ := ih g b.high d.high l.2 l'.2 pl.inv ql.inv r2 r3 ok.h0 (by omega) (by omega) okd.h0 (by omega) (by omega) eh
        generalize visit N f b.high l.2 = h at *
        generalize visit M g d.high l'.2 = h' at *
        have eo : h.2.out ++ [(⟨b.var, l.1, h.1⟩ : Br)] = h'.2.out ++ [⟨d.var, l'.1, h'.1⟩] := by rw [q2, hlev, r1, q1]
        refine ⟨by rw [eo], eo, ?_⟩
        intro a a' x0 x1 y0 y1 hx
        simp only [setMemo]
        by_cases ha : a = (i : Int) + 2
        · have : a' = (j : Int) + 2 := den_inj' hM hdM y0 m0 y1 m1 (by rw [← hx, ha, he])
          rw [if_pos ha, if_pos this, eo]
        · have : a' ≠ (j : Int) + 2 := fun e => ha (den_inj' hN hdN x0 n0 x1 n1 (by rw [hx, e, he]))
          rw [if_neg ha, if_neg this]
          exact q3 a a' x0 x1 y0 y1 hx

structure Valid (d : Dg) : Prop where
  ord : Ord d.nodes
  nodup : d.nodes.Nodup
  r0 : 0 ≤ d.root
  r1 : d.root < d.nodes.length + 2
  post : numbered d.nodes d.root = d

def Dg.den (d : Dg) : Cfg → Bool := YtpekmohnjpbkgaaGreatDoor.den d.nodes d.root

theorem canon {N M : List Br} (hN : Ord N) (hdN : N.Nodup) (hM : Ord M) (hdM : M.Nodup) {n m : Int} (n0 : 0 ≤ n) (n1 : n < N.length + 2) (m0 : 0 ≤ m) (m1 : m < M.length + 2) (he : den N n = den M m) :
    numbered N n = numbered M m := by
  have := visit_sim hN hdN hM hdM (n.toNat + 1) (m.toNat + 1) n m VS.init VS.init (VInv.init N) (VInv.init M) rfl ?_ n0 n1 (by omega) m0 m1 (by omega) he
  · simp only [numbered]
    rw [this.1, this.2.1]
  · intro a b a0 a1 b0 b1 hab
    rcases num_cases a0 a1 with rfl | rfl | ⟨i, x, hx, rfl⟩
    · rcases num_cases b0 b1 with rfl | rfl | ⟨j, y, hy, rfl⟩
      · rfl
      · rw [den_zero, den_one] at hab
        have := congrFun hab (fun _ => false)
        cases this
      · have := level_eq hN hdN hM hdM a0 a1 b0 b1 hab
        rw [levelN_of hy] at this
        have h1 := (hM _ _ hy).v1
        simp [levelN] at this
        omega
    · rcases num_cases b0 b1 with rfl | rfl | ⟨j, y, hy, rfl⟩
      · rw [den_zero, den_one] at hab
        have := congrFun hab (fun _ => false)
        cases this
      · rfl
      · have := level_eq hN hdN hM hdM a0 a1 b0 b1 hab
        rw [levelN_of hy] at this
        have h1 := (hM _ _ hy).v1
        simp [levelN] at this
        omega
    · have h1 := (hN _ _ hx).v1
      rcases num_cases b0 b1 with rfl | rfl | ⟨j, y, hy, rfl⟩
      · have := level_eq hN hdN hM hdM a0 a1 b0 b1 hab
        rw [levelN_of hx] at this
        simp [levelN] at this
        omega
      · have := level_eq hN hdN hM hdM a0 a1 b0 b1 hab
        rw [levelN_of hx] at this
        simp [levelN] at this
        omega
      · simp only [VS.init]
        rw [if_neg (by omega), if_neg (by omega), if_neg (by omega), if_neg (by omega)]

theorem numbered_post {N : List Br} (hN : Ord N) {n : Int} (n0 : 0 ≤ n) (n1 : n < N.length + 2) : VPost N n VS.init (visit N (n.toNat + 1) n VS.init) :=
  visit_ok hN _ n _ (VInv.init N) n0 n1 (by omega)

theorem numbered_den {N : List Br} (hN : Ord N) {n : Int} (n0 : 0 ≤ n) (n1 : n < N.length + 2) : (numbered N n).den = den N n := by
  have p := numbered_post hN n0 n1
  exact p.inv.sem _ _ p.here

theorem numbered_valid {N : List Br} (hN : Ord N) (hd : N.Nodup) {n : Int} (n0 : 0 ≤ n) (n1 : n < N.length + 2) : Valid (numbered N n) := by
  have p := numbered_post hN n0 n1
  have r := p.inv.rng _ _ p.here
  have ho : Ord (numbered N n).nodes := p.inv.ord
  have hn : (numbered N n).nodes.Nodup := p.inv.out_nodup hN hd
  refine ⟨ho, hn, r.1, r.2, ?_⟩
  exact canon ho hn hN hd r.1 r.2 n0 n1 (numbered_den hN n0 n1)

theorem Valid.ext {a b : Dg} (ha : Valid a) (hb : Valid b) (h : a.den = b.den) : a = b := by
  rw [← ha.post, ← hb.post]
  exact canon ha.ord ha.nodup hb.ord hb.nodup ha.r0 ha.r1 hb.r0 hb.r1 h

theorem Valid.root_zero {a : Dg} (ha : Valid a) : a.root = 0 ↔ ∀ c, a.den c = false := by
  constructor
  · intro h c
    unfold Dg.den
    rw [h, den_zero]
  · intro h
    refine den_inj' ha.ord ha.nodup ha.r0 (Int.le_refl 0) ha.r1 (by omega) ?_
    funext c
    rw [den_zero]
    exact h c

theorem pigeon : ∀ (b a : Nat) (f : Nat → Nat), (∀ i, i < a → f i < b) → (∀ i j, i < a → j < a → f i = f j → i = j) → a ≤ b := by
  intro b
  induction b with
  | zero =>
    intro a f h _
    rcases Nat.eq_zero_or_pos a with ha | ha
    · omega
    · have := h 0 ha; omega
  | succ b ih =>
    intro a f h hi
    rcases Nat.eq_zero_or_pos a with ha | ha
    · omega
    · -- move the value of the last place into the gap
      have key := ih (a - 1) (fun i => if f i = b then f (a - 1) else f i) ?_ ?_
      · omega
      · intro i hia
        have h1 := h i (by omega)
        have h2 := h (a - 1) (by omega)
        show (if f i = b then f (a - 1) else f i) < b
        split
        · rename_i e
          have : f (a - 1) ≠ b := fun e' => by have := hi i (a - 1) (by omega) (by omega) (e.trans e'.symm); omega
          omega
        · omega
      · intro i j hia hja he
        by_cases e1 : f i = b
        · by_cases e2 : f j = b
          · exact hi i j (by omega) (by omega) (e1.trans e2.symm)
          · rw [if_pos e1, if_neg e2] at he
            have := hi (a - 1) j (by omega) (by omega) he
            omega
        · by_cases e2 : f j = b
          · rw [if_neg e1, if_pos e2] at he
            have := hi i (a - 1) (by omega) (by omega) he
            omega
          · rw [if_neg e1, if_neg e2] at he
            exact hi i j (by omega) (by omega) he

theorem VInv.out_le {N : List Br} {s : VS} (h : VInv N s) : s.out.length ≤ N.length + 2 := by
  have hc : ∀ i : Nat, ∃ n : Int, i < s.out.length → s.memo n = some ((i : Int) + 2) := by
    intro i
    by_cases hi : i < s.out.length
    · obtain ⟨n, hn⟩ := h.hit i hi
      exact ⟨n, fun _ => hn⟩
    · exact ⟨0, fun h => absurd h hi⟩
  refine pigeon (N.length + 2) s.out.length (fun i => (Classical.choose (hc i)).toNat) ?_ ?_
  · intro i hi
    have h1 := Classical.choose_spec (hc i) hi
    have h2 := h.dom _ _ h1
    show (Classical.choose (hc i)).toNat < N.length + 2
    omega
  · intro i j hi hj he
    have h1 := Classical.choose_spec (hc i) hi
    have h2 := Classical.choose_spec (hc j) hj
    have d1 := h.dom _ _ h1
    have d2 := h.dom _ _ h2

    have : Classical.choose (hc i) = Classical.choose (hc j) := by omega
    rw [this, h2] at h1
    have := Option.some.inj h1
    omega

end Go.Proofs.YtpekmohnjpbkgaaGreatDoor

namespace Go.Proofs.YtpekmohnjpbkgaaGreatDoor
open Go Go.RowKit
open Go.MapKept (IsKey run_checkKey run_findKey sameNow_of_keys run_setObj_map heap_set)
set_option linter.unusedSectionVars false

/-- From address a on the cells read as cs. -/
def Rd (w : World) (a : Option Addr) (cs : List Value) : Prop :=
  ∀ j u, cs[j]? = some u → ∃ b o, a = some ⟨b, o, none⟩ ∧ b < w.heap.size ∧ w.cell? ⟨b, o + j, none⟩ = some u

theorem Rd.nil (w : World) (a : Option Addr) : Rd w a [] := fun j u h => by simp at h

theorem lt_of_cell {w : World} {b o : Nat} {v : Value} (h : w.cell? ⟨b, o, none⟩ = some v) : b < w.heap.size := by
  unfold World.cell? at h
  rcases Nat.lt_or_ge b w.heap.size with hb | hb
  · exact hb
  · rw [Array.getElem?_eq_none hb] at h
    cases h

theorem Rd.below {w w' : World} {a : Option Addr} {cs : List Value} (h : Rd w a cs) (hb : Below w.heap.size w w') : Rd w' a cs := by
  intro j u hj
  obtain ⟨b, o, ha, hlt, hc⟩ := h j u hj
  exact ⟨b, o, ha, Nat.lt_of_lt_of_le hlt hb.size, by rw [hb.cell (p := ⟨b, o + j, none⟩) hlt]; exact hc⟩

theorem bcell {W w1 : World} (hb : Below W.heap.size W w1) : (∀ b o, b < W.heap.size → w1.cell? ⟨b, o, none⟩ = W.cell? ⟨b, o, none⟩) ∧ (∀ b o, b < W.heap.size → w1.frozen? ⟨b, o, none⟩ = W.frozen? ⟨b, o, none⟩) :=
  ⟨fun b o h => hb.cell (p := ⟨b, o, none⟩) h, fun b o h => hb.frozen (p := ⟨b, o, none⟩) h⟩

def Br.cells (b : Br) : List Value := [.int .i64 b.var, .int .i64 b.low, .int .i64 b.high]
def brCells (l : List Br) : List Value := l.flatMap Br.cells

theorem flat3 {α : Type} (f : α → List Value) (hf : ∀ x, (f x).length = 3) (l : List α) (i k : Nat) (hk : k < 3) : (l.flatMap f)[i * 3 + k]? = (l[i]?).bind fun x => (f x)[k]? := by
  induction l generalizing i with
  | nil => simp
  | cons x l ih =>
    rw [List.flatMap_cons]
    cases i with
    | zero => simp [List.getElem?_append_left (show k < (f x).length by rw [hf]; exact hk)]
    | succ i =>
      rw [List.getElem?_append_right (by rw [hf]; omega), hf, show (i + 1) * 3 + k - 3 = i * 3 + k by omega, ih]
      simp

theorem brCells_length (l : List Br) : (brCells l).length = l.length * 3 := by
  unfold brCells
  induction l with
  | nil => rfl
  | cons x l ih => rw [List.flatMap_cons, List.length_append, ih]; simp [Br.cells]; omega

theorem brCells_append (l m : List Br) : brCells (l ++ m) = brCells l ++ brCells m := by simp [brCells]

/-- A branch of a list that is read. -/
theorem Rd.br {w : World} {a : Option Addr} {N : List Br} (h : Rd w a (brCells N)) {i : Nat} {x : Br} (hi : N[i]? = some x) :
    ∃ b o, a = some ⟨b, o, none⟩ ∧ b < w.heap.size ∧ w.cell? ⟨b, o + i * 3, none⟩ = some (.int .i64 x.var) ∧ w.cell? ⟨b, o + i * 3 + 1, none⟩ = some (.int .i64 x.low) ∧ w.cell? ⟨b, o + i * 3 + 2, none⟩ = some (.int .i64 x.high) := by
  have key := fun k hk => flat3 Br.cells (fun _ => rfl) N i k hk
  have h0 := key 0 (by omega)
  have h1 := key 1 (by omega)
  have h2 := key 2 (by omega)
  rw [hi] at h0 h1 h2
  obtain ⟨b, o, ha, hlt, c0⟩ := h _ _ h0
  obtain ⟨b1, o1, ha1, _, c1⟩ := h _ _ h1
  obtain ⟨b2, o2, ha2, _, c2⟩ := h _ _ h2
  rw [ha] at ha1 ha2
  cases ha1
  cases ha2
  exact ⟨b, o, ha, hlt, c0, by rw [Nat.add_assoc]; exact c1, by rw [Nat.add_assoc]; exact c2⟩

theorem getBr {N : List Br} {n : Int} (h0 : ¬ n < 2) (h1 : n < N.length + 2) : ∃ (i : Nat) (x : Br), i < N.length ∧ N[i]? = some x ∧ n = (i : Int) + 2 := by
  refine ⟨(n - 2).toNat, N[(n - 2).toNat]'(by omega), by omega, List.getElem?_eq_getElem _, by omega⟩

/-! ### What may have turned -/

/-- w' is w with new blocks, and with writes to blocks of S alone. -/
structure Mod (S : Nat → Prop) (w w' : World) : Prop where
  os : w'.os = w.os
  tape : w'.tape = w.tape
  output : w'.output = w.output
  size : w.heap.size ≤ w'.heap.size
  block : ∀ k, k < w.heap.size → ¬ S k → w'.heap[k]? = w.heap[k]?

theorem Mod.refl (S : Nat → Prop) (w : World) : Mod S w w := ⟨rfl, rfl, rfl, Nat.le_refl _, fun _ _ _ => rfl⟩
theorem Mod.trans {S : Nat → Prop} {a b c : World} (h : Mod S a b) (k : Mod S b c) : Mod S a c :=
  ⟨k.os.trans h.os, k.tape.trans h.tape, k.output.trans h.output, Nat.le_trans h.size k.size, fun i hi hs => (k.block i (Nat.lt_of_lt_of_le hi h.size) hs).trans (h.block i hi hs)⟩
theorem Mod.mono {S S' : Nat → Prop} {a b : World} (h : Mod S a b) (hS : ∀ k, k < a.heap.size → S k → S' k) : Mod S' a b :=
  ⟨h.os, h.tape, h.output, h.size, fun i hi hs => h.block i hi fun hs' => hs (hS i hi hs')⟩
/-- Two steps; the second one's writes count only below the first world's size. -/
theorem Mod.trans' {S S' T : Nat → Prop} {a b c : World} (h : Mod S a b) (k : Mod S' b c) (h1 : ∀ i, i < a.heap.size → S i → T i) (h2 : ∀ i, i < a.heap.size → S' i → T i) : Mod T a c :=
  ⟨k.os.trans h.os, k.tape.trans h.tape, k.output.trans h.output, Nat.le_trans h.size k.size, fun i hi hs => (k.block i (Nat.lt_of_lt_of_le hi h.size) fun hs' => hs (h2 i hi hs')).trans (h.block i hi fun hs' => hs (h1 i hi hs'))⟩
theorem Mod.of_below {S : Nat → Prop} {w w' : World} (h : Below w.heap.size w w') : Mod S w w' :=
  ⟨h.os, h.tape, h.output, h.size, fun k hk _ => h.block k hk⟩
theorem Mod.below {S : Nat → Prop} {w w' : World} {B : Nat} (h : Mod S w w') (hB : B ≤ w.heap.size) (hS : ∀ k, k < B → ¬ S k) : Below B w w' :=
  ⟨h.os, h.tape, h.output, h.size, fun k hk => h.block k (by omega) (hS k hk)⟩
theorem Mod.alloc {S : Nat → Prop} {a w : World} (h : Mod S a w) (o : Obj) : Mod S a (w.alloc o) :=
  h.trans (Mod.of_below ((Below.refl _ _).alloc (Nat.le_refl _) o))
theorem Mod.drewN {S : Nat → Prop} {a w : World} (h : Mod S a w) (n : Nat) : Mod S a (w.drewN n) :=
  ⟨h.os, h.tape, h.output, h.size, h.block⟩
theorem Mod.drew {S : Nat → Prop} {a w : World} (h : Mod S a w) : Mod S a w.drew :=
  ⟨h.os, h.tape, h.output, h.size, h.block⟩
theorem Mod.setCell {S : Nat → Prop} {a w : World} (h : Mod S a w) {p : Addr} (hp : S p.block ∨ a.heap.size ≤ p.block) (u : Value) : Mod S a (w.setCell p u) := by
  refine ⟨h.os, h.tape, h.output, by simp [World.setCell]; exact h.size, fun k hk hs => ?_⟩
  rw [Below.heap_setCell _ _ _ _ (by rintro rfl; rcases hp with hp | hp; exact hs hp; omega)]
  exact h.block k hk hs
theorem Mod.grown {S : Nat → Prop} {a w w' : World} {row : Option Nat} (h : Mod S a w) (hg : w.grownBy w' row) (hr : ∀ k, row = some k → k < a.heap.size → S k) : Mod S a w' :=
  ⟨hg.os.trans h.os, hg.tape.trans h.tape, hg.output.trans h.output, Nat.le_trans h.size hg.size, fun k hk hs => (hg.block k (Nat.lt_of_lt_of_le hk h.size) fun e => hs (hr k e.symm hk)).trans (h.block k hk hs)⟩
theorem Mod.block_of {S : Nat → Prop} {w w' : World} (h : Mod S w w') {k : Nat} {o : Obj} (hk : w.heap[k]? = some o) (hs : ¬ S k) : w'.heap[k]? = some o := by
  rw [h.block k (Array.getElem?_eq_some_iff.1 hk).1 hs]; exact hk
theorem Mod.cell_of {S : Nat → Prop} {w w' : World} (h : Mod S w w') {b o : Nat} {v : Value} (hc : w.cell? ⟨b, o, none⟩ = some v) (hs : ¬ S b) : w'.cell? ⟨b, o, none⟩ = some v := by
  rw [World.cell?_of_block (w := w) (h.block b (lt_of_cell hc) hs)]; exact hc
theorem bdrewN {B : Nat} {a w : World} (h : Below B a w) (n : Nat) : Below B a (w.drewN n) := ⟨h.os, h.tape, h.output, h.size, h.block⟩

theorem Rd.mod {S : Nat → Prop} {w w' : World} {a : Option Addr} {cs : List Value} (h : Rd w a cs) (hm : Mod S w w') (hs : ∀ b o, a = some ⟨b, o, none⟩ → b < w.heap.size → ¬ S b) : Rd w' a cs := by
  intro j u hj
  obtain ⟨b, o, ha, hlt, hc⟩ := h j u hj
  exact ⟨b, o, ha, Nat.lt_of_lt_of_le hlt hm.size, hm.cell_of hc (hs b o ha hlt)⟩

theorem Rd.mod' {S : Nat → Prop} {w w' : World} {a : Option Addr} {N : List Br} (h : Rd w a (brCells N)) (hm : Mod S w w') (hs : N ≠ [] → ∀ b o, a = some ⟨b, o, none⟩ → b < w.heap.size → ¬ S b) : Rd w' a (brCells N) := by
  cases hN : N with
  | nil => exact Rd.nil _ _
  | cons x L => rw [hN] at h hs; exact h.mod hm (hs (by simp))
theorem Rd.ha {w : World} {a : Option Addr} {N : List Br} (h : Rd w a (brCells N)) : N ≠ [] → ∀ b o, a = some ⟨b, o, none⟩ → b < w.heap.size := by
  rintro hN b o rfl
  cases hNe : N with
  | nil => exact absurd hNe hN
  | cons y L =>
    obtain ⟨b', o', e, h1, _⟩ := h.br (N := N) (i := 0) (x := y) (by rw [hNe]; rfl)
    cases e
    exact h1

theorem Mod.write (w : World) (p : Addr) (u : Value) : Mod (fun k => k = p.block) w (w.setCell p u) := Mod.setCell (S := fun k => k = p.block) (Mod.refl _ _) (.inl rfl) u
theorem Mod.of_grown {w w' : World} {row : Option Nat} (hg : w.grownBy w' row) : Mod (fun k => some k = row) w w' :=
  ⟨hg.os, hg.tape, hg.output, hg.size, fun k hk hs => hg.block k hk hs⟩

/-- A block of cells that is known whole, and may be written. -/
def Blk (w : World) (k : Nat) (c : Array Value) (e : TypeId) : Prop := w.heap[k]? = some (.cells c e (0, 0))

theorem Blk.cell {w : World} {k : Nat} {c : Array Value} {e : TypeId} (h : Blk w k c e) (i : Nat) : w.cell? ⟨k, i, none⟩ = c[i]? := by
  unfold Blk at h
  simp [World.cell?, h]
theorem Blk.frozen {w : World} {k : Nat} {c : Array Value} {e : TypeId} (h : Blk w k c e) (i : Nat) : w.frozen? ⟨k, i, none⟩ = false := by
  unfold Blk at h
  simp [World.frozen?, h]
theorem Blk.lt {w : World} {k : Nat} {c : Array Value} {e : TypeId} (h : Blk w k c e) : k < w.heap.size := (Array.getElem?_eq_some_iff.1 h).1
theorem Blk.mod {S : Nat → Prop} {w w' : World} {k : Nat} {c : Array Value} {e : TypeId} (h : Blk w k c e) (hm : Mod S w w') (hs : ¬ S k) : Blk w' k c e := hm.block_of h hs
theorem Blk.alloc {w : World} {k : Nat} {c : Array Value} {e : TypeId} (h : Blk w k c e) (o : Obj) : Blk (w.alloc o) k c e :=
  (Mod.of_below (S := fun _ => False) ((Below.refl _ _).alloc (Nat.le_refl _) o)).block_of h (fun h => h)
theorem Blk.new (w : World) (c : Array Value) (e : TypeId) : Blk (w.alloc (.cells c e)) w.heap.size c e := by
  show (w.heap.push _)[w.heap.size]? = _
  simp
theorem Blk.drew {w : World} {k : Nat} {c : Array Value} {e : TypeId} (h : Blk w k c e) : Blk w.drew k c e := h
theorem Rd.drew {w : World} {a : Option Addr} {cs : List Value} (h : Rd w a cs) : Rd w.drew a cs := h
theorem Blk.drewN {w : World} {k : Nat} {c : Array Value} {e : TypeId} (h : Blk w k c e) (n : Nat) : Blk (w.drewN n) k c e := h
theorem Blk.ne {w : World} {k k' : Nat} {c c' : Array Value} {e e' : TypeId} (h : Blk w k c e) (h' : Blk w k' c' e') (he : e ≠ e') : k ≠ k' := by
  rintro rfl
  unfold Blk at h h'
  rw [h] at h'
  simp at h'
  exact he h'.2
theorem Blk.setCell {w : World} {k : Nat} {c : Array Value} {e : TypeId} (h : Blk w k c e) (i : Nat) (u : Value) : Blk (w.setCell ⟨k, i, none⟩ u) k (c.setIfInBounds i u) e := by
  unfold Blk at *
  simp only [World.setCell, Array.getElem?_modify, h]
  simp
theorem Blk.setCell_other {w : World} {k : Nat} {c : Array Value} {e : TypeId} (h : Blk w k c e) {p : Addr} (hp : p.block ≠ k) (u : Value) : Blk (w.setCell p u) k c e := by
  unfold Blk at *
  rw [Below.heap_setCell _ _ _ _ (Ne.symm hp)]; exact h

/-! ### Several new blocks -/
theorem allocs_size (os : List Obj) (w : World) : (os.foldl World.alloc w).heap.size = w.heap.size + os.length := by
  induction os generalizing w with
  | nil => rfl
  | cons o os ih => rw [List.foldl_cons, ih]; simp; omega
theorem allocs_below (os : List Obj) (w : World) : Below w.heap.size w (os.foldl World.alloc w) := by
  induction os generalizing w with
  | nil => exact Below.refl _ _
  | cons o os ih =>
    rw [List.foldl_cons]
    exact ((Below.refl _ _).alloc (Nat.le_refl _) o).trans ((ih _).mono (by simp))
theorem allocs_get (os : List Obj) (w : World) (i : Nat) (o : Obj) (h : os[i]? = some o) : (os.foldl World.alloc w).heap[w.heap.size + i]? = some o := by
  induction os generalizing w i with
  | nil => simp at h
  | cons p os ih =>
    rw [List.foldl_cons]
    cases i with
    | zero =>
      simp at h
      subst h
      rw [(allocs_below os (w.alloc p)).block _ (by simp)]
      show (w.heap.push p)[w.heap.size]? = some p
      simp
    | succ i =>
      have := ih (w.alloc p) i (by simpa using h)
      simp only [World.size_alloc] at this
      rw [show w.heap.size + (i + 1) = w.heap.size + 1 + i by omega]
      exact this

/-! ### Maps that the call owns -/

section maps
variable {K V : Type} [DecidableEq K]

def aget : List (K × V) → K → Option V
  | [], _ => none
  | (k', v) :: m, k => if k = k' then some v else aget m k
def aset : List (K × V) → K → V → List (K × V)
  | [], k, v => [(k, v)]
  | (k', v') :: m, k, v => if k = k' then (k, v) :: m else (k', v') :: aset m k v
def adel : List (K × V) → K → List (K × V)
  | [], _ => []
  | (k', v') :: m, k => if k = k' then m else (k', v') :: adel m k

theorem aget_aset (m : List (K × V)) (k k' : K) (v : V) : aget (aset m k v) k' = if k' = k then some v else aget m k' := by
  induction m with
  | nil => simp only [aset, aget]
  | cons p m ih =>
    obtain ⟨q, x⟩ := p
    simp only [aset]
    split
    · rename_i h; subst h
      simp only [aget]
      split <;> rfl
    · simp only [aget, ih]
      split
      · rename_i h1 h2
        subst h2
        rw [if_neg (fun e => h1 e.symm)]
      · rfl

theorem mem_keys_aset (m : List (K × V)) (k : K) (v : V) (x : K) : x ∈ (aset m k v).map Prod.fst ↔ x = k ∨ x ∈ m.map Prod.fst := by
  induction m with
  | nil => simp [aset]
  | cons p m ih =>
    obtain ⟨q, y⟩ := p
    simp only [aset]
    split
    · rename_i h; subst h; simp
    · simp only [List.map_cons, List.mem_cons, ih]
      constructor
      · rintro (h | h | h)
        · exact .inr (.inl h)
        · exact .inl h
        · exact .inr (.inr h)
      · rintro (h | h | h)
        · exact .inr (.inl h)
        · exact .inl h
        · exact .inr (.inr h)

theorem nodup_aset (m : List (K × V)) (k : K) (v : V) (h : (m.map Prod.fst).Nodup) : ((aset m k v).map Prod.fst).Nodup := by
  induction m with
  | nil => simp [aset]
  | cons p m ih =>
    obtain ⟨q, y⟩ := p
    simp only [List.map_cons, List.nodup_cons] at h
    simp only [aset]
    split
    · rename_i e; subst e
      simp only [List.map_cons, List.nodup_cons]; exact h
    · rename_i e
      simp only [List.map_cons, List.nodup_cons]
      refine ⟨fun hm => ?_, ih h.2⟩
      rcases (mem_keys_aset m k v q).1 hm with rfl | hm
      · exact e rfl
      · exact h.1 hm

theorem aget_none (m : List (K × V)) (k : K) : aget m k = none ↔ k ∉ m.map Prod.fst := by
  induction m with
  | nil => simp [aget]
  | cons p m ih =>
    obtain ⟨q, y⟩ := p
    simp only [aget, List.map_cons, List.mem_cons, not_or]
    split
    · rename_i e; simp [e]
    · rename_i e; rw [ih]; simp [e]

theorem aget_some_mem {m : List (K × V)} {k : K} {v : V} (h : aget m k = some v) : (k, v) ∈ m := by
  induction m with
  | nil => simp [aget] at h
  | cons p m ih =>
    obtain ⟨q, y⟩ := p
    simp only [aget] at h
    split at h
    · rename_i e; subst e; cases h; exact List.mem_cons_self
    · exact List.mem_cons_of_mem _ (ih h)

theorem aset_length_le (m : List (K × V)) (k : K) (v : V) : (aset m k v).length ≤ m.length + 1 := by
  induction m with
  | nil => simp [aset]
  | cons p m ih =>
    obtain ⟨q, y⟩ := p
    simp only [aset]
    split
    · simp
    · simp only [List.length_cons]; omega

theorem aget_adel (m : List (K × V)) (h : (m.map Prod.fst).Nodup) (k k' : K) : aget (adel m k) k' = if k' = k then none else aget m k' := by
  induction m with
  | nil => simp [adel, aget]
  | cons p m ih =>
    obtain ⟨q, y⟩ := p
    simp only [List.map_cons, List.nodup_cons] at h
    simp only [adel]
    split
    · rename_i e; subst e
      simp only [aget]
      split
      · rename_i e; subst e; exact (aget_none m _).2 h.1
      · rfl
    · rename_i e
      simp only [aget, ih h.2]
      split
      · rename_i e2; subst e2
        rw [if_neg (fun x => e x.symm)]
      · rfl

theorem mem_keys_adel {m : List (K × V)} {k x : K} (h : x ∈ (adel m k).map Prod.fst) : x ∈ m.map Prod.fst := by
  induction m with
  | nil => simp [adel] at h
  | cons p m ih =>
    obtain ⟨q, y⟩ := p
    simp only [adel] at h
    split at h
    · exact List.mem_cons_of_mem _ h
    · simp only [List.map_cons, List.mem_cons] at h ⊢
      rcases h with h | h
      · exact .inl h
      · exact .inr (ih h)

theorem nodup_adel (m : List (K × V)) (k : K) (h : (m.map Prod.fst).Nodup) : ((adel m k).map Prod.fst).Nodup := by
  induction m with
  | nil => simp [adel]
  | cons p m ih =>
    obtain ⟨q, y⟩ := p
    simp only [List.map_cons, List.nodup_cons] at h
    simp only [adel]
    split
    · exact h.2
    · simp only [List.map_cons, List.nodup_cons]
      exact ⟨fun hm => h.1 (mem_keys_adel hm), ih h.2⟩

/-- The entry that a key finds. -/
def findK (x : K) : List K → List MapEntry → Nat → Option (Nat × Value)
  | k :: m, e :: l, i => if x = k then some (i, e.val) else findK x m l (i + 1)
  | _, _, _ => none

/-- A type whose keys are told apart as K's are. -/
structure KeyTy (P : Program) (T : TypeId) (kv : K → Value) : Prop where
  chk : ∀ (em : Bool) (x : K) (w : World), (Instr.checkKey em 10000 T (kv x)).run P w = .ok () w
  fnd : ∀ (x : K) (l : List MapEntry) (m : List K) (w : World), l.map (·.key) = m.map kv → (Instr.findKey T (kv x) l).run P w = .ok (findK x m l 0) w
  bits : ∀ x, Instr.sameBits 10000 (kv x) (kv x) = true

theorem KeyTy.of_equal {P : Program} {T : TypeId} {kv : K → Value} (hwide : (match P.underlying T with | some (.array _ _) | some (.struct _) => true | _ => false) = true)
    (hchk : ∀ (em : Bool) (x : K) (w : World), (Instr.checkKey em 10000 T (kv x)).run P w = .ok () w)
    (heq : ∀ (x y : K) (w : World), (Op.equal T (kv x) (kv y)).run P w = .ok (decide (x = y)) w)
    (hb : ∀ x, Instr.sameBits 10000 (kv x) (kv x) = true) : KeyTy P T kv := by
  refine ⟨hchk, ?_, hb⟩
  intro x l m w hl
  rw [run_findKey_eq w hwide]
  have key : ∀ (l : List MapEntry) (m : List K) (i : Nat), l.map (·.key) = m.map kv → (Instr.findAsking T (kv x) l i).run P w = .ok (findK x m l i) w := by
    intro l
    induction l with
    | nil => intro m i h; cases m <;> simp_all [Instr.findAsking, findK]
    | cons e l ih =>
      intro m i h
      cases m with
      | nil => simp at h
      | cons k m =>
        simp only [List.map_cons, List.cons.injEq] at h
        simp only [Instr.findAsking, Sem.run_bind, h.1, heq, Result.andThen_ok, findK]
        by_cases hx : x = k
        · simp [hx]
        · simp only [hx, decide_false, Bool.false_eq_true, if_false]
          exact ih m (i + 1) h.2
  exact key l m 0 hl

/-- Types whose keys are compared at once: whole numbers, strings. -/
theorem KeyTy.of_now {P : Program} {T : TypeId} {d : TypeDesc} {kv : K → Value} (hd : P.underlying T = some d) (hk : ∀ x, IsKey d (kv x)) (hinj : ∀ x y, kv x = kv y → x = y)
    (hb : ∀ x, Instr.sameBits 10000 (kv x) (kv x) = true) : KeyTy P T kv := by
  refine ⟨fun em x w => run_checkKey hd (hk x) em _, ?_, hb⟩
  intro x l m w hl
  refine run_findKey hd ?_
  have key : ∀ (l : List MapEntry) (m : List K) (i : Nat), l.map (·.key) = m.map kv → Instr.findNow d (kv x) l i = some (findK x m l i) := by
    intro l
    induction l with
    | nil => intro m i h; cases m <;> simp_all [Instr.findNow, findK]
    | cons e l ih =>
      intro m i h
      cases m with
      | nil => simp at h
      | cons k m =>
        simp only [List.map_cons, List.cons.injEq] at h
        obtain ⟨r, hr, hiff⟩ := sameNow_of_keys (hk x) (hk k)
        simp only [Instr.findNow, h.1, hr, findK]
        cases r with
        | true => rw [if_pos (hinj _ _ (hiff.1 rfl))]
        | false =>
          rw [if_neg (fun e => by have := hiff.2 (by rw [e]); cases this)]
          exact ih m (i + 1) h.2
  exact key l m 0 hl

/-- Block b is a map that holds the pairs of m. -/
def MapAt (kv : K → Value) (vv : V → Value) (w : World) (b : Nat) (m : List (K × V)) : Prop :=
  (m.map Prod.fst).Nodup ∧ ∃ es clock, w.heap[b]? = some (.map es clock) ∧ es.toList.map (·.key) = m.map (fun p => kv p.1) ∧ es.toList.map (·.val) = m.map (fun p => vv p.2)

variable {kv : K → Value} {vv : V → Value} {P : Program}

theorem MapAt.new (w : World) : MapAt kv vv (w.alloc (.map #[] 0)) w.heap.size ([] : List (K × V)) :=
  ⟨by simp, #[], 0, by show (w.heap.push _)[w.heap.size]? = _; simp, rfl, rfl⟩
theorem MapAt.lt {w : World} {b : Nat} {m : List (K × V)} (h : MapAt kv vv w b m) : b < w.heap.size := by
  obtain ⟨_, es, c, hb, _⟩ := h
  exact (Array.getElem?_eq_some_iff.1 hb).1
theorem MapAt.block {w w' : World} {b : Nat} {m : List (K × V)} (h : MapAt kv vv w b m) (e : w'.heap[b]? = w.heap[b]?) : MapAt kv vv w' b m := by
  obtain ⟨hn, es, c, hb, h1, h2⟩ := h
  exact ⟨hn, es, c, e.trans hb, h1, h2⟩
theorem MapAt.mod {S : Nat → Prop} {w w' : World} {b : Nat} {m : List (K × V)} (h : MapAt kv vv w b m) (hm : Mod S w w') (hs : ¬ S b) : MapAt kv vv w' b m :=
  h.block (hm.block b h.lt hs)
theorem MapAt.alloc {w : World} {b : Nat} {m : List (K × V)} (h : MapAt kv vv w b m) (o : Obj) : MapAt kv vv (w.alloc o) b m :=
  h.mod (Mod.of_below (S := fun _ => False) ((Below.refl _ _).alloc (Nat.le_refl _) o)) (fun h => h)
theorem MapAt.drew {w : World} {b : Nat} {m : List (K × V)} (h : MapAt kv vv w b m) : MapAt kv vv w.drew b m := h
theorem MapAt.drewN {w : World} {b : Nat} {m : List (K × V)} (h : MapAt kv vv w b m) (n : Nat) : MapAt kv vv (w.drewN n) b m := h
theorem MapAt.setCell {w : World} {b : Nat} {m : List (K × V)} (h : MapAt kv vv w b m) {p : Addr} (hp : b ≠ p.block) (u : Value) : MapAt kv vv (w.setCell p u) b m := h.mod (Mod.write w p u) hp
theorem MapAt.ne_blk {w : World} {b k : Nat} {m : List (K × V)} {c : Array Value} {e : TypeId} (h : MapAt kv vv w b m) (h' : Blk w k c e) : b ≠ k := by
  rintro rfl
  obtain ⟨_, es, _, hb, _⟩ := h
  unfold Blk at h'
  rw [hb] at h'
  cases h'

theorem findK_spec (x : K) : ∀ (m : List (K × V)) (l : List MapEntry) (i : Nat), l.map (·.val) = m.map (fun p => vv p.2) → (findK x (m.map Prod.fst) l i).map Prod.snd = (aget m x).map vv
  | [], l, i, h => by cases l <;> simp_all [findK, aget]
  | p :: m, [], i, h => by simp at h
  | p :: m, e :: l, i, h => by
    obtain ⟨k, v⟩ := p
    simp only [List.map_cons, List.cons.injEq] at h
    simp only [List.map_cons, findK, aget]
    split
    · simp [h.1]
    · exact findK_spec x m l (i + 1) h.2

theorem MapAt.run_find {T : TypeId} (hk : KeyTy P T kv) {es : List MapEntry} {m : List (K × V)} (h1 : es.map (·.key) = m.map (fun p => kv p.1)) (x : K) (w : World) :
    (Instr.findKey T (kv x) es).run P w = .ok (findK x (m.map Prod.fst) es 0) w :=
  hk.fnd x es (m.map Prod.fst) w (by rw [h1, List.map_map]; rfl)

/-- 'v, ok := m[k]'. -/
theorem MapAt.lookup_ok {w : World} {b : Nat} {m : List (K × V)} (h : MapAt kv vv w b m) {T kt e : TypeId} (ht : P.underlying T = some (.map kt e)) (hk : KeyTy P kt kv) (z : Value) (hz : ∀ w, (zeroValue e).run P w = .ok z w) (x : K) :
    (Instr.lookup T (.map (some b)) (kv x) true).run P w = .ok (.tuple #[((aget m x).map vv).getD z, .bool (aget m x).isSome]) w := by
  obtain ⟨hn, es, c, hb, h1, h2⟩ := h
  have hf := MapAt.run_find hk h1 x w
  have hs := findK_spec (vv := vv) x m es.toList 0 h2
  simp only [Instr.lookup, Sem.run_bind, run_underlying ht, Result.andThen_ok, Go.MapKept.run_getObj_map hb, Sem.run_pure, hk.chk, hf]
  revert hs
  generalize findK x (m.map Prod.fst) es.toList 0 = r
  cases r with
  | none =>
    intro hs
    have : aget m x = none := by
      cases hx : aget m x with
      | none => rfl
      | some v => rw [hx] at hs; simp at hs
    simp [this, hz]
  | some q =>
    intro hs
    cases hx : aget m x with
    | none => rw [hx] at hs; simp at hs
    | some v =>
      rw [hx] at hs
      simp at hs
      simp [hs]

/-- 'm[k]'. -/
theorem MapAt.lookup {w : World} {b : Nat} {m : List (K × V)} (h : MapAt kv vv w b m) {T kt e : TypeId} (ht : P.underlying T = some (.map kt e)) (hk : KeyTy P kt kv) (z : Value) (hz : ∀ w, (zeroValue e).run P w = .ok z w) (x : K) :
    (Instr.lookup T (.map (some b)) (kv x) false).run P w = .ok (((aget m x).map vv).getD z) w := by
  obtain ⟨hn, es, c, hb, h1, h2⟩ := h
  have hf := MapAt.run_find hk h1 x w
  have hs := findK_spec (vv := vv) x m es.toList 0 h2
  simp only [Instr.lookup, Sem.run_bind, run_underlying ht, Result.andThen_ok, Go.MapKept.run_getObj_map hb, Sem.run_pure, hk.chk, hf]
  revert hs
  generalize findK x (m.map Prod.fst) es.toList 0 = r
  cases r with
  | none =>
    intro hs
    have : aget m x = none := by
      cases hx : aget m x with
      | none => rfl
      | some v => rw [hx] at hs; simp at hs
    simp [this, hz]
  | some q =>
    intro hs
    cases hx : aget m x with
    | none => rw [hx] at hs; simp at hs
    | some v =>
      rw [hx] at hs
      simp at hs
      simp [hs]

theorem findK_none (x : K) : ∀ (m : List (K × V)) (l : List MapEntry) (i : Nat), l.map (·.val) = m.map (fun p => vv p.2) → findK x (m.map Prod.fst) l i = none → ∀ v, aset m x v = m ++ [(x, v)]
  | [], l, i, _, _ => fun v => rfl
  | p :: m, [], i, h, _ => by simp at h
  | p :: m, e :: l, i, h, hf => by
    obtain ⟨k, v⟩ := p
    simp only [List.map_cons, List.cons.injEq] at h
    simp only [List.map_cons, findK] at hf
    split at hf
    · cases hf
    · rename_i hne
      intro u
      simp only [aset, if_neg hne, findK_none x m l (i + 1) h.2 hf u, List.cons_append]

theorem findK_some (x : K) : ∀ (m : List (K × V)) (l : List MapEntry) (i j : Nat) (y : Value), l.map (·.val) = m.map (fun p => vv p.2) → findK x (m.map Prod.fst) l i = some (j, y) →
    ∃ A B v0, m = A ++ (x, v0) :: B ∧ j = i + A.length ∧ ∀ v, aset m x v = A ++ (x, v) :: B
  | [], l, i, j, y, _, hf => by simp [findK] at hf
  | p :: m, [], i, j, y, h, _ => by simp at h
  | p :: m, e :: l, i, j, y, h, hf => by
    obtain ⟨k, v⟩ := p
    simp only [List.map_cons, List.cons.injEq] at h
    simp only [List.map_cons, findK] at hf
    split at hf
    · rename_i he
      subst he
      simp only [Option.some.injEq, Prod.mk.injEq] at hf
      exact ⟨[], m, v, rfl, by simp [hf.1], fun u => by simp [aset]⟩
    · rename_i hne
      obtain ⟨A, B, v0, rfl, hj, hs⟩ := findK_some x m l (i + 1) j y h.2 hf
      exact ⟨(k, v) :: A, B, v0, rfl, by simp; omega, fun u => by simp only [aset, if_neg hne, hs u, List.cons_append]⟩

/-- 'm[k] = v'. -/
theorem MapAt.update {w : World} {b : Nat} {m : List (K × V)} (h : MapAt kv vv w b m) {T kt e : TypeId} (ht : P.underlying T = some (.map kt e)) (hk : KeyTy P kt kv) (x : K) (v : V) :
    ∃ w', (Instr.mapUpdate T (.map (some b)) (kv x) (vv v)).run P w = .ok () w' ∧ MapAt kv vv w' b (aset m x v) ∧ Mod (fun k => k = b) w w' ∧ w'.heap.size = w.heap.size := by
  obtain ⟨hn, es, c, hb, h1, h2⟩ := h
  have hf := MapAt.run_find hk h1 x w
  have hlt : b < w.heap.size := (Array.getElem?_eq_some_iff.1 hb).1
  have hmod : ∀ o, Mod (fun k => k = b) w { w with heap := w.heap.setIfInBounds b o } := fun o =>
    ⟨rfl, rfl, rfl, by simp, fun k _ hne => (heap_set (o' := o) hb).2 k hne⟩
  cases hr : findK x (m.map Prod.fst) es.toList 0 with
  | none =>
    rw [hr] at hf
    refine ⟨{ w with heap := w.heap.setIfInBounds b (.map (es.push { key := kv x, val := vv v, born := c }) (c + 1)) }, ?_, ?_, hmod _, by simp⟩
    · simp only [Instr.mapUpdate, Sem.run_bind, run_underlying ht, Result.andThen_ok, Go.MapKept.run_getObj_map hb, hk.chk, hf, run_setObj_map _ hb]
    · refine ⟨nodup_aset _ _ _ hn, _, _, (heap_set hb).1, ?_, ?_⟩
      · rw [findK_none (vv := vv) x m es.toList 0 h2 hr v]; simp [h1]
      · rw [findK_none (vv := vv) x m es.toList 0 h2 hr v]; simp [h2]
  | some q =>
    obtain ⟨j, y⟩ := q
    rw [hr] at hf
    obtain ⟨A, B, v0, hm, hj, hs⟩ := findK_some (vv := vv) x m es.toList 0 j y h2 hr
    have hkey : (es[j]?).map (·.key) = some (kv x) := by
      have : (es.toList.map (·.key))[j]? = some (kv x) := by rw [h1, hm]; simp [hj]
      simpa using this
    refine ⟨{ w with heap := w.heap.setIfInBounds b (.map (es.modify j fun e => { e with key := kv x, val := vv v }) c) }, ?_, ?_, hmod _, by simp⟩
    · simp only [Instr.mapUpdate, Sem.run_bind, run_underlying ht, Result.andThen_ok, Go.MapKept.run_getObj_map hb, Sem.run_pure, hk.chk, hf, hkey, Option.getD_some, Instr.keyThatStays, hk.bits, if_true, run_setObj_map _ hb]
    · refine ⟨nodup_aset _ _ _ hn, _, _, (heap_set hb).1, ?_, ?_⟩
      · rw [hs v]
        have e1 : ((es.modify j fun e => { e with key := kv x, val := vv v }).toList.map (·.key)) = es.toList.map (·.key) := by
          apply List.ext_getElem?
          intro i
          simp only [List.getElem?_map, Array.getElem?_toList, Array.getElem?_modify]
          by_cases hij : j = i
          · subst hij
            simp only [if_true]
            rw [hkey]
            cases he : es[j]? with
            | none => rw [he] at hkey; simp at hkey
            | some e => simp
          · simp [hij]
        rw [e1, h1, hm]; simp
      · rw [hs v]
        apply List.ext_getElem?
        intro i
        have h2i := congrArg (fun l => l[i]?) h2
        simp only [List.getElem?_map, Array.getElem?_toList] at h2i
        simp only [List.getElem?_map, Array.getElem?_toList, Array.getElem?_modify]
        by_cases hij : j = i
        · subst hij
          simp only [if_true]
          have : es[j]? ≠ none := fun hc => by rw [hc] at hkey; simp at hkey
          obtain ⟨e, he⟩ := Option.ne_none_iff_exists'.1 this
          rw [he, hj]
          simp
        · simp only [hij, if_false]
          rw [h2i, hm]
          simp only [hj, Nat.zero_add] at hij
          rcases Nat.lt_trichotomy i A.length with hlt | heq | hgt
          · rw [List.getElem?_append_left hlt, List.getElem?_append_left hlt]
          · exact absurd heq.symm hij
          · rw [List.getElem?_append_right (by omega), List.getElem?_append_right (by omega)]
            obtain ⟨d, hd⟩ : ∃ d, i - A.length = d + 1 := ⟨i - A.length - 1, by omega⟩
            rw [hd]; simp

theorem wpList_mapUpdate_at {w : World} {ops : Array Oper} {rest : List Oper} {o : Oper} {a : Act} {Q : Exit → Act → World → Prop} (hg : o.guard = none) (t : TypeId) (m k x : Operand) (hop : o.op = Op.mapUpdate t m k x)
    (kt e : TypeId) (ht : P.underlying t = some (.map kt e)) (hk : KeyTy P kt kv) (b : Nat) (mm : List (K × V)) (hm : a.eval m = .map (some b)) (hown : MapAt kv vv w b mm) (key : K) (hkv : a.eval k = kv key) (val : V) (hv : a.eval x = vv val)
    (hK : ∀ w', MapAt kv vv w' b (aset mm key val) → Mod (fun k => k = b) w w' → w'.heap.size = w.heap.size → wpList P ops Q rest (a.put o.dst undef) w') : wpList P ops Q (o :: rest) a w := by
  refine wpList_plain hg fun K' hK' => ?_
  obtain ⟨w', hrun, h1, h2, h3⟩ := hown.update (P := P) ht hk key val
  unfold Oper.wp
  simp [execOp, hop, hm, hkv, hv, hrun, Result.andThen]
  exact hK' _ _ (hK w' h1 h2 h3)
theorem wpList_insert_at {w : World} {ops : Array Oper} {rest : List Oper} {o : Oper} {a : Act} {Q : Exit → Act → World → Prop} (hg : o.guard = none) (t : TypeId) (m k x : Operand) (hop : o.op = Op.insert t m k x)
    (kt e : TypeId) (ht : P.underlying t = some (.map kt e)) (hk : KeyTy P kt kv) (b : Nat) (mm : List (K × V)) (hm : a.eval m = .map (some b)) (hown : MapAt kv vv w b mm) (key : K) (hkv : a.eval k = kv key) (val : V) (hv : a.eval x = vv val)
    (hK : ∀ w', MapAt kv vv w' b (aset mm key val) → Mod (fun k => k = b) w w' → w'.heap.size = w.heap.size → wpList P ops Q rest (a.put o.dst undef) w') : wpList P ops Q (o :: rest) a w := by
  refine wpList_plain hg fun K' hK' => ?_
  obtain ⟨w', hrun, h1, h2, h3⟩ := hown.update (P := P) ht hk key val
  unfold Oper.wp
  simp [execOp, hop, hm, hkv, hv, hrun, Result.andThen]
  exact hK' _ _ (hK w' h1 h2 h3)
end maps

/-- A diagram that a call has made: in new memory. -/
def DgPost (w : World) (d : Dg) (e : Ending) (w' : World) : Prop :=
  ∃ a cap, e = .returned (.agg #[.slice a d.nodes.length cap, .int .i64 d.root]) ∧ Rd w' a (brCells d.nodes) ∧ (∀ b o, a = some ⟨b, o, none⟩ → w.heap.size ≤ b) ∧ Below w.heap.size w w'

end Go.Proofs.YtpekmohnjpbkgaaGreatDoor
