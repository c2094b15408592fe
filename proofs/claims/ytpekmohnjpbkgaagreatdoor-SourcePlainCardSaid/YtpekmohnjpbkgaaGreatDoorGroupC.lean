/- Combining decision diagrams, without Go and memory: the recursion with a memo, and what it computes. The closure of combine: its memory, constants, and the memo. The closure of combine, one step of its recursion. combine: the canonical set of an operation on three sets. -/
import Derived.Test.YtpekmohnjpbkgaaGreatDoorGroupB
import Derived.Deep.RegionWith
import Derived.Deep.CutBlock
import Derived.Maps.OwnOps
import Derived.Laws.EntriesVeiled
import Derived.Deep.RegionHeld3
namespace Go.Proofs.YtpekmohnjpbkgaaGreatDoor

theorem aget_kn (L : List Br) (x : Br) (n : Int) (h : aget (kn L) x = some n) : ∃ i : Nat, L[i]? = some x ∧ n = (i : Int) + 2 := by
  have hm := aget_some_mem h
  unfold kn at hm
  obtain ⟨⟨y, i⟩, h1, h2⟩ := List.mem_map.1 hm
  simp only [Prod.mk.injEq] at h2
  obtain ⟨rfl, rfl⟩ := h2
  exact ⟨i, by simpa using List.mem_zipIdx_iff_getElem?.1 h1, rfl⟩

theorem aget_kn_none (L : List Br) (x : Br) (h : aget (kn L) x = none) : x ∉ L := by
  rw [aget_none] at h
  intro hx
  apply h
  have : (kn L).map Prod.fst = L := by
    unfold kn
    rw [List.map_map]
    show List.map (fun p => p.1) L.zipIdx = L
    exact List.zipIdx_map_fst 0 L
  rw [this]
  exact hx

/-- What a new branch must meet; low and high may be the same. -/
structure Fits (L : List Br) (x : Br) : Prop where
  v0 : 0 ≤ x.var
  v1 : x.var ≤ 63
  l0 : 0 ≤ x.low
  h0 : 0 ≤ x.high
  l1 : x.low < L.length + 2
  h1 : x.high < L.length + 2
  lv : x.var < levelN L x.low
  hv : x.var < levelN L x.high

structure UPost (L : List Br) (x : Br) (p : List Br × Int) : Prop where
  ord : Ord p.1
  nodup : p.1.Nodup
  grow : ∃ M, p.1 = L ++ M
  r0 : 0 ≤ p.2
  r1 : p.2 < p.1.length + 2
  sem : den p.1 p.2 = fun c => if c x.var.toNat then den L x.high c else den L x.low c
  lev : x.var ≤ levelN p.1 p.2
  len : p.1.length ≤ L.length + 1

theorem uniq_ok {L : List Br} {x : Br} (hL : Ord L) (hd : L.Nodup) (h : Fits L x) : UPost L x (uniq L x) := by
  unfold uniq
  by_cases e : x.low = x.high
  · rw [if_pos e]
    refine ⟨hL, hd, ⟨[], by simp⟩, h.l0, h.l1, ?_, Int.le_of_lt h.lv, by simp⟩
    funext c
    simp only [e]
    split <;> rfl
  · rw [if_neg e]
    cases hn : aget (kn L) x with
    | some n =>
      obtain ⟨i, hi, rfl⟩ := aget_kn L x n hn
      have hlt := (List.getElem?_eq_some_iff.1 hi).1
      exact ⟨hL, hd, ⟨[], by simp⟩, by simp only; omega, by simp only; omega, by funext c; exact den_node hL hi c, by simp only; rw [levelN_of hi]; exact Int.le_refl _, by simp⟩
    | none =>
      have hx := aget_kn_none L x hn
      have bok : BrOk L L.length x := ⟨h.v0, h.v1, h.l0, h.h0, by have := h.l1; omega, by have := h.h1; omega, e, h.lv, h.hv⟩
      refine ⟨hL.snoc bok, ?_, ⟨[x], rfl⟩, by simp only; omega, by simp only [List.length_append, List.length_cons, List.length_nil]; omega, ?_, ?_, by simp⟩
      · simp only
        rw [List.nodup_append]
        refine ⟨hd, by simp, ?_⟩
        intro a ha b hb
        simp at hb
        subst hb
        exact fun e => hx (e ▸ ha)
      · exact den_last' L x _ rfl
      · simp only
        rw [levelN_last L x _ rfl]
        exact Int.le_refl _

abbrev K3 := Int × Int × Int

section
variable (A B C : List Br) (op : Bool → Bool → Bool → Bool)

def inR (k : K3) : Prop := (0 ≤ k.1 ∧ k.1 < A.length + 2) ∧ (0 ≤ k.2.1 ∧ k.2.1 < B.length + 2) ∧ (0 ≤ k.2.2 ∧ k.2.2 < C.length + 2)
def den3 (k : K3) : Cfg → Bool := fun c => op (den A k.1 c) (den B k.2.1 c) (den C k.2.2 c)
def lev3 (k : K3) : Int := min (levelN A k.1) (min (levelN B k.2.1) (levelN C k.2.2))
def low3 (k : K3) (v : Int) : K3 := ((sidesN A k.1 v).1, (sidesN B k.2.1 v).1, (sidesN C k.2.2 v).1)
def high3 (k : K3) (v : Int) : K3 := ((sidesN A k.1 v).2, (sidesN B k.2.1 v).2, (sidesN C k.2.2 v).2)
def sum3 (k : K3) : Int := k.1 + k.2.1 + k.2.2
def isConst3 (k : K3) : Bool := decide (k.1 < 2) && decide (k.2.1 < 2) && decide (k.2.2 < 2)

structure CS where
  nodes : List Br
  memo : List (K3 × Int)

def atF : Nat → K3 → CS → Int × CS
  | 0, _, s => (0, s)
  | f + 1, k, s =>
    if isConst3 k then (if op (k.1 == 1) (k.2.1 == 1) (k.2.2 == 1) then 1 else 0, s) else
    match aget s.memo k with
    | some r => (r, s)
    | none =>
      let v := lev3 A B C k
      let l := atF f (low3 A B C k v) s
      let h := atF f (high3 A B C k v) l.2
      let u := uniq h.2.nodes ⟨v, l.1, h.1⟩
      (u.2, ⟨u.1, aset h.2.memo k u.2⟩)

structure CInv (s : CS) : Prop where
  ord : Ord s.nodes
  nodup : s.nodes.Nodup
  keys : (s.memo.map Prod.fst).Nodup
  rng : ∀ k r, aget s.memo k = some r → inR A B C k
  sem : ∀ k r, aget s.memo k = some r → 0 ≤ r ∧ r < s.nodes.length + 2 ∧ den s.nodes r = den3 A B C op k ∧ lev3 A B C k ≤ levelN s.nodes r
  len : s.nodes.length ≤ s.memo.length

structure CPost (k : K3) (s : CS) (p : Int × CS) : Prop where
  inv : CInv A B C op p.2
  r0 : 0 ≤ p.1
  r1 : p.1 < p.2.nodes.length + 2
  sem : den p.2.nodes p.1 = den3 A B C op k
  lev : lev3 A B C k ≤ levelN p.2.nodes p.1
  grow : ∃ M, p.2.nodes = s.nodes ++ M
  above : ∀ q, sum3 k < sum3 q → aget p.2.memo q = aget s.memo q
end

section
variable {A B C : List Br} {op : Bool → Bool → Bool → Bool}

theorem CInv.init : CInv A B C op ⟨[], []⟩ := ⟨Ord.nil, by simp, by simp, fun k r h => by simp [aget] at h, fun k r h => by simp [aget] at h, by simp⟩

theorem sides_den {N : List Br} (hN : Ord N) {n : Int} (h0 : 0 ≤ n) (h1 : n < N.length + 2) (v : Int) (hv : v < 64) (c : Cfg) : den N n c = if c v.toNat then den N (sidesN N n v).2 c else den N (sidesN N n v).1 c := by
  unfold sidesN
  by_cases h : levelN N n = v
  · rw [if_pos h]
    rcases num_cases h0 h1 with rfl | rfl | ⟨i, b, hb, rfl⟩
    · simp [levelN] at h; omega
    · simp [levelN] at h; omega
    · rw [nodeAt_of hb]
      rw [levelN_of hb] at h
      rw [den_node hN hb, h]
  · rw [if_neg h]
    simp

theorem sides_rng {N : List Br} (hN : Ord N) {n : Int} (h0 : 0 ≤ n) (h1 : n < N.length + 2) (v : Int) (hv : v < 64) :
    (0 ≤ (sidesN N n v).1 ∧ (sidesN N n v).1 < N.length + 2) ∧ (0 ≤ (sidesN N n v).2 ∧ (sidesN N n v).2 < N.length + 2) ∧ (sidesN N n v).1 ≤ n ∧ (sidesN N n v).2 ≤ n ∧
    (levelN N n = v → (sidesN N n v).1 < n ∧ (sidesN N n v).2 < n) ∧ (v ≤ levelN N n → v < levelN N (sidesN N n v).1 ∧ v < levelN N (sidesN N n v).2) := by
  unfold sidesN
  by_cases h : levelN N n = v
  · rw [if_pos h]
    rcases num_cases h0 h1 with rfl | rfl | ⟨i, b, hb, rfl⟩
    · simp [levelN] at h; omega
    · simp [levelN] at h; omega
    · rw [nodeAt_of hb]
      rw [levelN_of hb] at h
      have ok := hN _ _ hb
      have a1 := ok.l1
      have a2 := ok.h1
      have a3 := ok.l0
      have a4 := ok.h0
      have a5 := ok.lv
      have a6 := ok.hv
      have hi := (List.getElem?_eq_some_iff.1 hb).1
      refine ⟨⟨a3, by simp only; omega⟩, ⟨a4, by simp only; omega⟩, by simp only; omega, by simp only; omega, fun _ => ⟨by simp only; omega, by simp only; omega⟩, fun _ => ⟨by simp only; omega, by simp only; omega⟩⟩
  · rw [if_neg h]
    exact ⟨⟨h0, h1⟩, ⟨h0, h1⟩, Int.le_refl _, Int.le_refl _, fun e => absurd e h, fun hv => ⟨by simp only; omega, by simp only; omega⟩⟩

theorem min_lt_iff (a b : Int) : ∀ c : Int, min a b = c → c ≤ a ∧ c ≤ b ∧ (a = c ∨ b = c) := by intro c h; omega

theorem lev3_spec (k : K3) : lev3 A B C k ≤ levelN A k.1 ∧ lev3 A B C k ≤ levelN B k.2.1 ∧ lev3 A B C k ≤ levelN C k.2.2 ∧ (levelN A k.1 = lev3 A B C k ∨ levelN B k.2.1 = lev3 A B C k ∨ levelN C k.2.2 = lev3 A B C k) := by
  unfold lev3
  omega

theorem lev3_lt (hA : Ord A) (hB : Ord B) (hC : Ord C) {k : K3} (hk : inR A B C k) (hc : isConst3 k = false) : 0 ≤ lev3 A B C k ∧ lev3 A B C k ≤ 63 := by
  obtain ⟨⟨a0, a1⟩, ⟨b0, b1⟩, c0, c1⟩ := hk
  have la := level_le hA a0 a1
  have lb := level_le hB b0 b1
  have lc := level_le hC c0 c1
  have key : ∀ {N : List Br} (hN : Ord N) {n : Int}, 0 ≤ n → n < N.length + 2 → ¬ n < 2 → levelN N n ≤ 63 := by
    intro N hN n n0 n1 n2
    rcases num_cases n0 n1 with rfl | rfl | ⟨i, b, hb, rfl⟩
    · omega
    · omega
    · rw [levelN_of hb]; exact (hN _ _ hb).v1
  have h := lev3_spec (A := A) (B := B) (C := C) k
  have : ¬ (k.1 < 2 ∧ k.2.1 < 2 ∧ k.2.2 < 2) := by
    intro ⟨h1, h2, h3⟩
    simp [isConst3, h1, h2, h3] at hc
  refine ⟨by unfold lev3; omega, ?_⟩
  by_cases h1 : k.1 < 2
  · by_cases h2 : k.2.1 < 2
    · have := key hC c0 c1 (by omega); omega
    · have := key hB b0 b1 h2; omega
  · have := key hA a0 a1 h1; omega

/-- The keys of a step: smaller, in range, of greater level; and the meaning. -/
theorem step3 (hA : Ord A) (hB : Ord B) (hC : Ord C) {k : K3} (hk : inR A B C k) (hc : isConst3 k = false) :
    inR A B C (low3 A B C k (lev3 A B C k)) ∧ inR A B C (high3 A B C k (lev3 A B C k)) ∧ sum3 (low3 A B C k (lev3 A B C k)) < sum3 k ∧ sum3 (high3 A B C k (lev3 A B C k)) < sum3 k ∧
    lev3 A B C k < lev3 A B C (low3 A B C k (lev3 A B C k)) ∧ lev3 A B C k < lev3 A B C (high3 A B C k (lev3 A B C k)) ∧
    ∀ c, den3 A B C op k c = if c (lev3 A B C k).toNat then den3 A B C op (high3 A B C k (lev3 A B C k)) c else den3 A B C op (low3 A B C k (lev3 A B C k)) c := by
  have hv := lev3_lt hA hB hC hk hc
  have hs := lev3_spec (A := A) (B := B) (C := C) k
  obtain ⟨⟨a0, a1⟩, ⟨b0, b1⟩, c0, c1⟩ := hk
  generalize lev3 A B C k = v at *
  have rA := sides_rng hA a0 a1 v (by omega)
  have rB := sides_rng hB b0 b1 v (by omega)
  have rC := sides_rng hC c0 c1 v (by omega)
  refine ⟨⟨rA.1, rB.1, rC.1⟩, ⟨rA.2.1, rB.2.1, rC.2.1⟩, ?_, ?_, ?_, ?_, ?_⟩
  · simp only [sum3, low3]
    rcases hs.2.2.2 with h | h | h
    · have := rA.2.2.2.2.1 h; omega
    · have := rB.2.2.2.2.1 h; omega
    · have := rC.2.2.2.2.1 h; omega
  · simp only [sum3, high3]
    rcases hs.2.2.2 with h | h | h
    · have := rA.2.2.2.2.1 h; omega
    · have := rB.2.2.2.2.1 h; omega
    · have := rC.2.2.2.2.1 h; omega
  · have h1 := rA.2.2.2.2.2 hs.1
    have h2 := rB.2.2.2.2.2 hs.2.1
    have h3 := rC.2.2.2.2.2 hs.2.2.1
    simp only [lev3, low3]
    omega
  · have h1 := rA.2.2.2.2.2 hs.1
    have h2 := rB.2.2.2.2.2 hs.2.1
    have h3 := rC.2.2.2.2.2 hs.2.2.1
    simp only [lev3, high3]
    omega
  · intro c
    simp only [den3, high3, low3]
    rw [sides_den hA a0 a1 v (by omega) c, sides_den hB b0 b1 v (by omega) c, sides_den hC c0 c1 v (by omega) c]
    split <;> rfl

theorem den_const {N : List Br} {n : Int} (h0 : 0 ≤ n) (h1 : n < 2) (c : Cfg) : den N n c = (n == 1) := by
  have : n = 0 ∨ n = 1 := by omega
  rcases this with rfl | rfl
  · rw [den_zero]; rfl
  · rw [den_one]; rfl

theorem aset_length_new {K V : Type} [DecidableEq K] (m : List (K × V)) (k : K) (v : V) (h : aget m k = none) : (aset m k v).length = m.length + 1 := by
  rw [aset_new m k v h]; simp

theorem atF_ok (hA : Ord A) (hB : Ord B) (hC : Ord C) : ∀ (f : Nat) (k : K3) (s : CS), CInv A B C op s → inR A B C k → sum3 k < f → CPost A B C op k s (atF A B C op f k s) := by
  intro f
  induction f with
  | zero =>
    intro k s _ hk hf
    obtain ⟨⟨a0, _⟩, ⟨b0, _⟩, c0, _⟩ := hk
    simp only [sum3] at hf
    omega
  | succ f ih =>
    intro k s hs hk hf
    unfold atF
    cases hc : isConst3 k with
    | true =>
      simp only [if_true]
      simp only [isConst3, Bool.and_eq_true, decide_eq_true_eq] at hc
      obtain ⟨⟨a0, _⟩, ⟨b0, _⟩, c0, _⟩ := hk
      have e : den3 A B C op k = fun _ => op (k.1 == 1) (k.2.1 == 1) (k.2.2 == 1) := by
        funext c
        simp only [den3]
        rw [den_const a0 hc.1.1, den_const b0 hc.1.2, den_const c0 hc.2]
      have hl : lev3 A B C k = 64 := by simp [lev3, levelN, hc]
      cases ho : op (k.1 == 1) (k.2.1 == 1) (k.2.2 == 1) with
      | true => exact ⟨hs, by simp, by simp only [if_true]; omega, by simp only [if_true]; rw [e, den_one, ho], by simp only [if_true]; rw [hl]; simp [levelN], ⟨[], by simp⟩, fun _ _ => rfl⟩
      | false => exact ⟨hs, by simp, by simp only [Bool.false_eq_true, if_false]; omega, by simp only [Bool.false_eq_true, if_false]; rw [e, den_zero, ho], by simp only [Bool.false_eq_true, if_false]; rw [hl]; simp [levelN], ⟨[], by simp⟩, fun _ _ => rfl⟩
    | false =>
      simp only [Bool.false_eq_true, if_false]
      cases hm : aget s.memo k with
      | some r =>
        have h := hs.sem k r hm
        exact ⟨hs, h.1, h.2.1, h.2.2.1, h.2.2.2, ⟨[], by simp⟩, fun _ _ => rfl⟩
      | none =>
        simp only
        obtain ⟨i1, i2, s1, s2, l1, l2, hd⟩ := step3 (op := op) hA hB hC hk hc
        have hv := lev3_lt hA hB hC hk hc
        have pl := ih (low3 A B C k (lev3 A B C k)) s hs i1 (by omega)
        generalize atF A B C op f (low3 A B C k (lev3 A B C k)) s = l at *
        have ph := ih (high3 A B C k (lev3 A B C k)) l.2 pl.inv i2 (by omega)
        generalize atF A B C op f (high3 A B C k (lev3 A B C k)) l.2 = h at *
        obtain ⟨M1, g1⟩ := ph.grow
        have lr1 : l.1 < l.2.nodes.length + 2 := pl.r1
        have hll : levelN h.2.nodes l.1 = levelN l.2.nodes l.1 := by rw [g1, levelN_append lr1]
        have hdl : den h.2.nodes l.1 = den l.2.nodes l.1 := by rw [g1, den_append _ _ _ lr1]
        have hle : l.2.nodes.length ≤ h.2.nodes.length := by rw [g1]; simp
        have fit : Fits h.2.nodes ⟨lev3 A B C k, l.1, h.1⟩ := by
          refine ⟨hv.1, hv.2, pl.r0, ph.r0, by simp only; omega, ph.r1, ?_, ?_⟩
          · simp only; rw [hll]; have := pl.lev; omega
          · simp only; have := ph.lev; omega
        have pu := uniq_ok ph.inv.ord ph.inv.nodup fit
        generalize uniq h.2.nodes ⟨lev3 A B C k, l.1, h.1⟩ = u at *
        have hmk : aget h.2.memo k = none := by rw [ph.above k s2, pl.above k s1]; exact hm
        obtain ⟨M2, g2⟩ := pu.grow
        have sem : den u.1 u.2 = den3 A B C op k := by
          rw [pu.sem]
          funext c
          simp only
          rw [hd c, ph.sem, hdl, pl.sem]
        refine ⟨⟨pu.ord, pu.nodup, nodup_aset _ _ _ ph.inv.keys, ?_, ?_, ?_⟩, pu.r0, pu.r1, sem, pu.lev, ?_, ?_⟩
        · intro q r hq
          simp only at hq
          rw [aget_aset] at hq
          split at hq
          · rename_i e; subst e; exact hk
          · exact ph.inv.rng q r hq
        · intro q r hq
          simp only at hq
          rw [aget_aset] at hq
          split at hq
          · rename_i e; subst e
            cases hq
            exact ⟨pu.r0, pu.r1, sem, pu.lev⟩
          · have hs := ph.inv.sem q r hq
            refine ⟨hs.1, ?_, ?_, ?_⟩
            · have := hs.2.1; simp only; rw [g2]; simp only [List.length_append]; omega
            · simp only; rw [g2, den_append _ _ _ hs.2.1]; exact hs.2.2.1
            · simp only; rw [g2, levelN_append hs.2.1]; exact hs.2.2.2
        · simp only
          rw [aset_length_new _ _ _ hmk]
          have := pu.len
          have := ph.inv.len
          omega
        · obtain ⟨M0, g0⟩ := pl.grow
          exact ⟨M0 ++ M1 ++ M2, by simp only; rw [g2, g1, g0]; simp⟩
        · intro q hq
          simp only
          rw [aget_aset, if_neg (fun e => by subst e; omega), ph.above q (by omega), pl.above q (by omega)]

theorem aget_of_mem {K V : Type} [DecidableEq K] {m : List (K × V)} (hn : (m.map Prod.fst).Nodup) {p : K × V} (hp : p ∈ m) : aget m p.1 = some p.2 := by
  induction m with
  | nil => simp at hp
  | cons q m ih =>
    obtain ⟨a, b⟩ := q
    simp only [List.map_cons, List.nodup_cons] at hn
    simp only [aget]
    rcases List.mem_cons.1 hp with e | hp
    · rw [e]; simp
    · split
      · rename_i e
        exact absurd (e ▸ List.mem_map_of_mem hp) hn.1
      · exact ih hn.2 hp

/-- How many entries a memo can have. -/
theorem CInv.memo_le {s : CS} (h : CInv A B C op s) : s.memo.length ≤ (A.length + 2) * ((B.length + 2) * (C.length + 2)) := by
  refine pigeon _ _ (fun i => match s.memo[i]? with
    | some p => p.1.1.toNat * ((B.length + 2) * (C.length + 2)) + (p.1.2.1.toNat * (C.length + 2) + p.1.2.2.toNat)
    | none => 0) ?_ ?_
  · intro i hi
    have hp := List.getElem?_eq_getElem hi
    have hr := h.rng (s.memo[i]).1 (s.memo[i]).2 ?_
    · obtain ⟨⟨a0, a1⟩, ⟨b0, b1⟩, c0, c1⟩ := hr
      show (match s.memo[i]? with | some p => _ | none => 0) < _
      rw [hp]
      simp only
      generalize (s.memo[i]).1.1 = x at *
      generalize (s.memo[i]).1.2.1 = y at *
      generalize (s.memo[i]).1.2.2 = z at *
      have hx : x.toNat + 1 ≤ A.length + 2 := by omega
      have hy : y.toNat + 1 ≤ B.length + 2 := by omega
      have hz : z.toNat < C.length + 2 := by omega
      have h1 : (y.toNat + 1) * (C.length + 2) ≤ (B.length + 2) * (C.length + 2) := Nat.mul_le_mul_right _ hy
      have h2 : (x.toNat + 1) * ((B.length + 2) * (C.length + 2)) ≤ (A.length + 2) * ((B.length + 2) * (C.length + 2)) := Nat.mul_le_mul_right _ hx
      rw [Nat.add_mul] at h1 h2
      omega
    · exact aget_of_mem h.keys (List.getElem_mem hi)
  · intro i j hi hj he
    have hpi := List.getElem?_eq_getElem hi
    have hpj := List.getElem?_eq_getElem hj
    have r1 := h.rng _ _ (aget_of_mem h.keys (List.getElem_mem hi))
    have r2 := h.rng _ _ (aget_of_mem h.keys (List.getElem_mem hj))
    simp only [hpi, hpj] at he
    have hij : (s.memo[i]).1 = (s.memo[j]).1 := by
      obtain ⟨⟨a0, a1⟩, ⟨b0, b1⟩, c0, c1⟩ := r1
      obtain ⟨⟨a0', a1'⟩, ⟨b0', b1'⟩, c0', c1'⟩ := r2
      generalize (s.memo[i]).1 = p at *
      generalize (s.memo[j]).1 = q at *
      obtain ⟨x, y, z⟩ := p
      obtain ⟨x', y', z'⟩ := q
      simp only at *
      have key : ∀ (n a a' b b' : Nat), b < n → b' < n → a * n + b = a' * n + b' → a = a' ∧ b = b' := by
        intro n a a' b b' hb hb' e
        have h1 : (a * n + b) / n = (a' * n + b') / n := by rw [e]
        rw [Nat.mul_comm a n, Nat.mul_comm a' n, Nat.mul_add_div (by omega), Nat.mul_add_div (by omega), Nat.div_eq_of_lt hb, Nat.div_eq_of_lt hb'] at h1
        refine ⟨by omega, ?_⟩
        have : a = a' := by omega
        subst this
        omega
      have hy : y.toNat + 1 ≤ B.length + 2 := by omega
      have hy' : y'.toNat + 1 ≤ B.length + 2 := by omega
      have h1 : (y.toNat + 1) * (C.length + 2) ≤ (B.length + 2) * (C.length + 2) := Nat.mul_le_mul_right _ hy
      have h1' : (y'.toNat + 1) * (C.length + 2) ≤ (B.length + 2) * (C.length + 2) := Nat.mul_le_mul_right _ hy'
      rw [Nat.add_mul] at h1 h1'
      obtain ⟨e1, e2⟩ := key _ _ _ _ _ (by omega) (by omega) he
      obtain ⟨e3, e4⟩ := key _ _ _ _ _ (by omega) (by omega) e2
      rw [show x = x' by omega, show y = y' by omega, show z = z' by omega]
    have hk := h.keys
    have h3 : (s.memo.map Prod.fst)[i]'(by simpa using hi) = (s.memo.map Prod.fst)[j]'(by simpa using hj) := by simpa using hij
    exact (List.getElem_inj hk).1 h3
end
end Go.Proofs.YtpekmohnjpbkgaaGreatDoor

namespace Go.Proofs.YtpekmohnjpbkgaaGreatDoor
open Go Go.RowKit
set_option maxHeartbeats 1000000
set_option maxRecDepth 100000
attribute [local go_sem ↓] Go.wp_at_zero Go.wp_at_succ

/-- A function value that answers as op does, in whatever world that is as w0 was. -/
def IsOp (w0 : World) (fo : Nat) (caps : Array Value) (op : Bool → Bool → Bool → Bool) : Prop :=
  (∀ args w, (callFunc fo args).run Tryz.prog w = .ok (.enter fo args) w) ∧ ∀ W, Below w0.heap.size w0 W → ∀ x y z, Calls Tryz.prog fo (#[.bool x, .bool y, .bool z] ++ caps) W fun e w' => e = .returned (.bool (op x y z)) ∧ W = w'

structure CmbW (w0 : World) (A B C : List Br) (aA aB aC : Option Addr) (cA cB cC : Nat) (rA rB rC : Int) (fo : Nat) (caps : Array Value) (kop kmm bm kl kat kb bb bk : Nat) (w : World) (nv : Value) (s : CS) : Prop where
  bel : Below w0.heap.size w0 w
  opv : Blk w kop #[.func (.func fo) #[] caps] 251
  mem : Blk w kmm #[.map (some bm)] 290
  map : MapAt t3 (Value.int .i64) w bm s.memo
  arr : Blk w kl #[.slice aA A.length cA, .int .i64 rA, .slice aB B.length cB, .int .i64 rB, .slice aC C.length cC, .int .i64 rC] 250
  atv : Blk w kat #[.func (.func 223) #[] #[.pointer (some ⟨kop, 0, none⟩), .pointer (some ⟨kmm, 0, none⟩), .pointer (some ⟨kl, 0, none⟩), .pointer (some ⟨kat, 0, none⟩), .pointer (some ⟨kb, 0, none⟩)]] 291
  bvar : Blk w kb #[.pointer (some ⟨bb, 0, none⟩)] 219
  bld : Bld w0.heap.size w bb bk nv s.nodes
  hbm : w0.heap.size ≤ bm
  hmk : bm ≠ bk

def CmbS (bm bb bk : Nat) (nv : Value) (k : Nat) : Prop := k = bm ∨ BldS bb bk nv k

def CmbPost (w0 : World) (A B C : List Br) (aA aB aC : Option Addr) (cA cB cC : Nat) (rA rB rC : Int) (fo : Nat) (caps : Array Value) (kop kmm bm kl kat kb bb bk : Nat) (w : World) (nv : Value) (r : Int) (s' : CS) (e : Ending) (w' : World) : Prop :=
  ∃ nv', e = .returned (.int .i64 r) ∧ CmbW w0 A B C aA aB aC cA cB cC rA rB rC fo caps kop kmm bm kl kat kb bb bk w' nv' s' ∧ Mod (CmbS bm bb bk nv) w w' ∧ (∀ g, nv'.ownBlock = some g → nv.ownBlock = some g ∨ w.heap.size ≤ g)

section
variable {w0 : World} {A B C : List Br} {aA aB aC : Option Addr} {cA cB cC : Nat} {rA rB rC : Int} {fo : Nat} {caps : Array Value} {kop kmm bm kl kat kb bb bk : Nat} {w : World} {nv : Value} {s : CS}
theorem CmbW.alloc (h : CmbW w0 A B C aA aB aC cA cB cC rA rB rC fo caps kop kmm bm kl kat kb bb bk w nv s) (o : Obj) : CmbW w0 A B C aA aB aC cA cB cC rA rB rC fo caps kop kmm bm kl kat kb bb bk (w.alloc o) nv s :=
  ⟨h.bel.alloc h.bel.size o, h.opv.alloc _, h.mem.alloc _, h.map.alloc _, h.arr.alloc _, h.atv.alloc _, h.bvar.alloc _, ⟨h.bld.blk.alloc _, h.bld.own.alloc _, h.bld.map.alloc _, h.bld.hb, h.bld.hk⟩, h.hbm, h.hmk⟩
theorem CmbW.below {w' : World} (h : CmbW w0 A B C aA aB aC cA cB cC rA rB rC fo caps kop kmm bm kl kat kb bb bk w nv s) (hb : Below w.heap.size w w') : CmbW w0 A B C aA aB aC cA cB cC rA rB rC fo caps kop kmm bm kl kat kb bb bk w' nv s := by
  have hm : Mod (fun _ => False) w w' := Mod.of_below hb
  exact ⟨h.bel.trans (hb.mono h.bel.size), h.opv.mod hm (fun h => h), h.mem.mod hm (fun h => h), h.map.mod hm (fun h => h), h.arr.mod hm (fun h => h), h.atv.mod hm (fun h => h), h.bvar.mod hm (fun h => h), ⟨h.bld.blk.mod hm (fun h => h), h.bld.own.mod hm (fun _ _ h => h), h.bld.map.mod hm (fun h => h), h.bld.hb, h.bld.hk⟩, h.hbm, h.hmk⟩
end

theorem at_const (w0 : World) (A B C : List Br) (aA aB aC : Option Addr) (cA cB cC : Nat) (rA rB rC : Int) (fo : Nat) (caps : Array Value) (op : Bool → Bool → Bool → Bool) (hop : IsOp w0 fo caps op) (kop kmm bm kl kat kb bb bk : Nat) (w : World) (nv : Value) (s : CS) (x y z : Int)
    (h : CmbW w0 A B C aA aB aC cA cB cC rA rB rC fo caps kop kmm bm kl kat kb bb bk w nv s) (hx : x < 2) (hy : y < 2) (hz : z < 2) :
    Calls Tryz.prog 223 #[.agg #[.int .i64 x, .int .i64 y, .int .i64 z], .pointer (some ⟨kop, 0, none⟩), .pointer (some ⟨kmm, 0, none⟩), .pointer (some ⟨kl, 0, none⟩), .pointer (some ⟨kat, 0, none⟩), .pointer (some ⟨kb, 0, none⟩)] w
      (CmbPost w0 A B C aA aB aC cA cB cC rA rB rC fo caps kop kmm bm kl kat kb bb bk w nv (if op (x == 1) (y == 1) (z == 1) then 1 else 0) s) := by
  have c0 := h.opv.cell 0
  simp at c0
  have hk := h.opv.lt
  have hh := h.alloc (.cells #[.int .i64 x, .int .i64 y, .int .i64 z] 292)
  have hcf := hop.1
  have ho := hop.2 _ hh.bel (x == 1) (y == 1) (z == 1)
  cases hb : op (x == 1) (y == 1) (z == 1)
  all_goals
    rw [hb] at ho
    clear hb
    go_enter Tryz.func223, Tryz.ntmps223
    go_wp2_with fail
    refine ho.mono ?_
    rintro e w1 ⟨rfl, rfl⟩
    go_wp2_with fail
    go_ret
    exact ⟨nv, rfl, hh, (Mod.refl _ _).alloc _, fun g e => .inl e⟩

theorem at_hit (w0 : World) (A B C : List Br) (aA aB aC : Option Addr) (cA cB cC : Nat) (rA rB rC : Int) (fo : Nat) (caps : Array Value) (kop kmm bm kl kat kb bb bk : Nat) (w : World) (nv : Value) (s : CS) (x y z r : Int)
    (h : CmbW w0 A B C aA aB aC cA cB cC rA rB rC fo caps kop kmm bm kl kat kb bb bk w nv s) (hc : 2 ≤ x ∨ (x < 2 ∧ 2 ≤ y) ∨ (x < 2 ∧ y < 2 ∧ 2 ≤ z)) (hm : aget s.memo (x, y, z) = some r) :
    Calls Tryz.prog 223 #[.agg #[.int .i64 x, .int .i64 y, .int .i64 z], .pointer (some ⟨kop, 0, none⟩), .pointer (some ⟨kmm, 0, none⟩), .pointer (some ⟨kl, 0, none⟩), .pointer (some ⟨kat, 0, none⟩), .pointer (some ⟨kb, 0, none⟩)] w
      (CmbPost w0 A B C aA aB aC cA cB cC rA rB rC fo caps kop kmm bm kl kat kb bb bk w nv r s) := by
  have c0 := h.mem.cell 0
  simp at c0
  have hk := h.mem.lt
  have hh := h.alloc (.cells #[.int .i64 x, .int .i64 y, .int .i64 z] 292)
  have hlk := hh.map.lookup_ok (P := Tryz.prog) Tryz.underlying290 key_t3 (.int .i64 0) zero3 (x, y, z)
  rw [hm] at hlk
  simp only [Option.map_some, Option.getD_some, Option.isSome_some, t3] at hlk
  have HM := Lib.hid hm
  clear hm
  rcases hc with hc | hc | hc
  all_goals
    go_enter Tryz.func223, Tryz.ntmps223
    go_wp2_with fail
    go_ret
    exact ⟨nv, rfl, hh, (Mod.refl _ _).alloc _, fun g e => .inl e⟩
end Go.Proofs.YtpekmohnjpbkgaaGreatDoor

namespace Go.Proofs.YtpekmohnjpbkgaaGreatDoor
open Go Go.RowKit
set_option maxHeartbeats 1000000
set_option maxRecDepth 100000
attribute [local go_sem ↓] Go.wp_at_zero Go.wp_at_succ

section
variable {w0 : World} {A B C : List Br} {aA aB aC : Option Addr} {cA cB cC : Nat} {rA rB rC : Int} {fo : Nat} {caps : Array Value} {kop kmm bm kl kat kb bb bk : Nat} {w : World} {nv : Value} {s : CS}
theorem CmbW.notS (h : CmbW w0 A B C aA aB aC cA cB cC rA rB rC fo caps kop kmm bm kl kat kb bb bk w nv s) {k : Nat} {c : Array Value} {e : TypeId} (hk : Blk w k c e) (h1 : e ≠ 222) (h2 : e ≠ 161) : ¬ CmbS bm bb bk nv k := by
  rintro (rfl | rfl | rfl | e)
  · exact h.map.ne_blk hk rfl
  · exact hk.ne h.bld.blk h1 rfl
  · exact h.bld.map.ne_blk hk rfl
  · exact h.bld.own.ne_blk e hk h2 rfl
theorem CmbS.chain {a b c : World} {nv nv1 : Value} (m1 : Mod (CmbS bm bb bk nv) a b) (p1 : ∀ g, nv1.ownBlock = some g → nv.ownBlock = some g ∨ a.heap.size ≤ g) (m2 : Mod (CmbS bm bb bk nv1) b c) : Mod (CmbS bm bb bk nv) a c := by
  refine m1.trans' m2 (fun _ _ h => h) ?_
  rintro k hk (e | e | e | e)
  · exact .inl e
  · exact .inr (.inl e)
  · exact .inr (.inr (.inl e))
  · rcases p1 k e with e | e
    · exact .inr (.inr (.inr e))
    · omega
theorem own_chain {S : Nat → Prop} {a b : World} {nv nv1 nv2 : Value} (m1 : Mod S a b) (p1 : ∀ g, nv1.ownBlock = some g → nv.ownBlock = some g ∨ a.heap.size ≤ g) (p2 : ∀ g, nv2.ownBlock = some g → nv1.ownBlock = some g ∨ b.heap.size ≤ g) : ∀ g, nv2.ownBlock = some g → nv.ownBlock = some g ∨ a.heap.size ≤ g := by
  intro g e
  have := m1.size
  rcases p2 g e with e | e
  · exact p1 g e
  · exact .inr (by omega)
end

/-- Behind the branch, before the memo is written. -/
def CMid (w0 : World) (A B C : List Br) (aA aB aC : Option Addr) (cA cB cC : Nat) (rA rB rC : Int) (fo : Nat) (caps : Array Value) (kop kmm bm kl kat kb bb bk : Nat) (w : World) (nv : Value) (x y z : Int) (s' : CS) (wx : World) : Prop :=
  ∃ nv3, CmbW w0 A B C aA aB aC cA cB cC rA rB rC fo caps kop kmm bm kl kat kb bb bk wx nv3 s' ∧ Mod (CmbS bm bb bk nv) w wx ∧ (∀ g, nv3.ownBlock = some g → nv.ownBlock = some g ∨ w.heap.size ≤ g) ∧ Blk wx w.heap.size #[.int .i64 x, .int .i64 y, .int .i64 z] 292

/-- The two keys of a step, filled up to the k-th place. -/
def LH (l h : K3) (lb hb : Nat) (W2 : World) (k : Nat) (wr : World) : Prop :=
  Blk wr lb #[.int .i64 (if 0 < k then l.1 else 0), .int .i64 (if 1 < k then l.2.1 else 0), .int .i64 (if 2 < k then l.2.2 else 0)] 292 ∧
  Blk wr hb #[.int .i64 (if 0 < k then h.1 else 0), .int .i64 (if 1 < k then h.2.1 else 0), .int .i64 (if 2 < k then h.2.2 else 0)] 292 ∧ Mod (fun q => q = lb ∨ q = hb) W2 wr

theorem LH.step {l h : K3} {lb : Nat} {W2 wr w1 : World} {k : Nat} (hk : k < 3) {u t : Int} (hu : u = if k = 0 then l.1 else if k = 1 then l.2.1 else l.2.2) (ht : t = if k = 0 then h.1 else if k = 1 then h.2.1 else h.2.2)
    (q : LH l h lb (lb + 1) W2 k wr) (hb : Below wr.drew.heap.size wr.drew w1) : LH l h lb (lb + 1) W2 (k + 1) ((w1.setCell ⟨lb, k, none⟩ (.int .i64 u)).setCell ⟨lb + 1, k, none⟩ (.int .i64 t)) := by
  obtain ⟨q1, q2, q3⟩ := q
  have z1 := q1.drew.mod (Mod.of_below (S := fun _ => False) hb) (fun h => h)
  have z2 := q2.drew.mod (Mod.of_below (S := fun _ => False) hb) (fun h => h)
  have y1 := (z1.setCell k (.int .i64 u)).setCell_other (p := ⟨lb + 1, k, none⟩) (by simp) (.int .i64 t)
  have y2 := (z2.setCell_other (p := ⟨lb, k, none⟩) (by simp) (.int .i64 u)).setCell k (.int .i64 t)
  refine ⟨?_, ?_, ((q3.drew.trans (Mod.of_below hb)).setCell (.inl (.inl rfl)) _).setCell (.inl (.inr rfl)) _⟩
  · obtain rfl | rfl | rfl : k = 0 ∨ k = 1 ∨ k = 2 := by omega
    all_goals (simp at y1 hu; subst hu; simpa using y1)
  · obtain rfl | rfl | rfl : k = 0 ∨ k = 1 ∨ k = 2 := by omega
    all_goals (simp at y2 ht; subst ht; simpa using y2)

theorem at_new (w0 : World) (A B C : List Br) (lA : A.length ≤ 4096) (lB : B.length ≤ 4096) (lC : C.length ≤ 4096) (aA aB aC : Option Addr) (hA : Rd w0 aA (brCells A)) (hB : Rd w0 aB (brCells B)) (hC : Rd w0 aC (brCells C)) (cA cB cC : Nat) (rA rB rC : Int) (fo : Nat) (caps : Array Value) (kop kmm bm kl kat kb bb bk : Nat) (w : World) (nv : Value) (s : CS) (x y z : Int)
    (h : CmbW w0 A B C aA aB aC cA cB cC rA rB rC fo caps kop kmm bm kl kat kb bb bk w nv s) (hk : inR A B C (x, y, z)) (hc : 2 ≤ x ∨ (x < 2 ∧ 2 ≤ y) ∨ (x < 2 ∧ y < 2 ∧ 2 ≤ z)) (hm : aget s.memo (x, y, z) = none) (hv63 : lev3 A B C (x, y, z) ≤ 63) (l h' : Int × CS) (hlen : h'.2.nodes.length ≤ 1099511627776)
    (ihl : ∀ W nv', CmbW w0 A B C aA aB aC cA cB cC rA rB rC fo caps kop kmm bm kl kat kb bb bk W nv' s → Calls Tryz.prog 223 #[t3 (low3 A B C (x, y, z) (lev3 A B C (x, y, z))), .pointer (some ⟨kop, 0, none⟩), .pointer (some ⟨kmm, 0, none⟩), .pointer (some ⟨kl, 0, none⟩), .pointer (some ⟨kat, 0, none⟩), .pointer (some ⟨kb, 0, none⟩)] W
      (CmbPost w0 A B C aA aB aC cA cB cC rA rB rC fo caps kop kmm bm kl kat kb bb bk W nv' l.1 l.2))
    (ihh : ∀ W nv', CmbW w0 A B C aA aB aC cA cB cC rA rB rC fo caps kop kmm bm kl kat kb bb bk W nv' l.2 → Calls Tryz.prog 223 #[t3 (high3 A B C (x, y, z) (lev3 A B C (x, y, z))), .pointer (some ⟨kop, 0, none⟩), .pointer (some ⟨kmm, 0, none⟩), .pointer (some ⟨kl, 0, none⟩), .pointer (some ⟨kat, 0, none⟩), .pointer (some ⟨kb, 0, none⟩)] W
      (CmbPost w0 A B C aA aB aC cA cB cC rA rB rC fo caps kop kmm bm kl kat kb bb bk W nv' h'.1 h'.2)) :
    Calls Tryz.prog 223 #[.agg #[.int .i64 x, .int .i64 y, .int .i64 z], .pointer (some ⟨kop, 0, none⟩), .pointer (some ⟨kmm, 0, none⟩), .pointer (some ⟨kl, 0, none⟩), .pointer (some ⟨kat, 0, none⟩), .pointer (some ⟨kb, 0, none⟩)] w
      (CmbPost w0 A B C aA aB aC cA cB cC rA rB rC fo caps kop kmm bm kl kat kb bb bk w nv (uniq h'.2.nodes ⟨lev3 A B C (x, y, z), l.1, h'.1⟩).2
        ⟨(uniq h'.2.nodes ⟨lev3 A B C (x, y, z), l.1, h'.1⟩).1, aset h'.2.memo (x, y, z) (uniq h'.2.nodes ⟨lev3 A B C (x, y, z), l.1, h'.1⟩).2⟩) := by
  have c0 := h.mem.cell 0
  simp at c0
  have hkm := h.mem.lt
  have hh := h.alloc (.cells #[.int .i64 x, .int .i64 y, .int .i64 z] 292)
  have gx := Blk.new w #[.int .i64 x, .int .i64 y, .int .i64 z] 292
  have hlk := hh.map.lookup_ok (P := Tryz.prog) Tryz.underlying290 key_t3 (.int .i64 0) zero3 (x, y, z)
  rw [hm] at hlk
  simp only [Option.map_none, Option.getD_none, Option.isSome_none, t3] at hlk
  have hkl := h.arr.lt
  have mw : Mod (CmbS bm bb bk nv) w (w.alloc (.cells #[.int .i64 x, .int .i64 y, .int .i64 z] 292)) := (Mod.refl _ _).alloc _
  go_enter Tryz.func223, Tryz.ntmps223
  go_upto_region 1 with fail
  go_cut [28] (fun s28 wx => s28 = .bool false ∧ wx = w.alloc (.cells #[.int .i64 x, .int .i64 y, .int .i64 z] 292))
  case first =>
    rcases hc with hc | hc | hc
    all_goals
      go_wp2_with fail
      go_meet
      first | exact ⟨rfl, rfl⟩ | exact ⟨by simp; omega, rfl⟩
  case rest =>
    obtain ⟨rfl, rfl⟩ := hcut
    have gs : (w.alloc (.cells #[.int .i64 x, .int .i64 y, .int .i64 z] 292)).heap.size = w.heap.size + 1 := by simp
    have hxs : w.heap.size < (w.alloc (.cells #[.int .i64 x, .int .i64 y, .int .i64 z] 292)).heap.size := by omega
    clear gs
    generalize (w.alloc (.cells #[.int .i64 x, .int .i64 y, .int .i64 z] 292)) = W at *
    replace c0 := hh.mem.cell 0
    have e0 := hh.arr.cell 0
    have e1 := hh.arr.cell 1
    have e2 := hh.arr.cell 2
    have e3 := hh.arr.cell 3
    have e4 := hh.arr.cell 4
    have e5 := hh.arr.cell 5
    have x0 := gx.cell 0
    have x1 := gx.cell 1
    have x2 := gx.cell 2
    simp at c0 e0 e1 e2 e3 e4 e5 x0 x1 x2
    go_upto_region 8 with fail
    have RA := hA.below hh.bel
    have RB := hB.below hh.bel
    have RC := hC.below hh.bel
    obtain ⟨⟨kA0, kA1⟩, ⟨kB0, kB1⟩, kC0, kC1⟩ := hk
    simp only at kA0 kA1 kB0 kB1 kC0 kC1
    go_cut [10] (fun s10 wx => s10 = .int .i64 (lev3 A B C (x, y, z)) ∧ Below W.heap.size W wx)
    case first =>
      go_region_held3 (fun w' => w'.cell? ⟨kl, 0, none⟩ = some (.slice aA A.length cA) ∧ w'.cell? ⟨kl, 1, none⟩ = some (.int .i64 rA) ∧ w'.cell? ⟨kl, 2, none⟩ = some (.slice aB B.length cB) ∧ w'.cell? ⟨kl, 3, none⟩ = some (.int .i64 rB) ∧ w'.cell? ⟨kl, 4, none⟩ = some (.slice aC C.length cC) ∧ w'.cell? ⟨kl, 5, none⟩ = some (.int .i64 rC) ∧
          w'.cell? ⟨w.heap.size, 0, none⟩ = some (.int .i64 x) ∧ w'.cell? ⟨w.heap.size, 1, none⟩ = some (.int .i64 y) ∧ w'.cell? ⟨w.heap.size, 2, none⟩ = some (.int .i64 z) ∧ Rd w' aA (brCells A) ∧ Rd w' aB (brCells B) ∧ Rd w' aC (brCells C) ∧ Below W.heap.size W w')
        (first | (exact ⟨e0, e1, e2, e3, e4, e5, x0, x1, x2, RA, RB, RC, (Below.refl _ _).drew⟩) | (go_split_ands; refine ⟨?_, ?_, ?_, ?_, ?_, ?_, ?_, ?_, ?_, ?_, ?_, ?_, ?_⟩ <;> first | assumption | exact cell_later hb (by assumption) | exact Rd.below (by assumption) hb | exact Below.trans (by assumption) (hb.mono (Below.size (B := W.heap.size) (w := W) (by assumption)))))
        ((go_at_call 153; refine (level_any _ _ _ _ _ _ ?_ (by omega) (by assumption)).mono ?_; (go_split_ands; assumption); rintro e w' ⟨rfl, hb⟩))
      go_wp2_with fail
      all_goals
        go_meet
        go_split_ands
        refine ⟨congrArg (Value.int .i64) ?_, by assumption⟩
        unfold lev3
        simp only
        omega
    case rest =>
      obtain ⟨rfl, hbW⟩ := hcut
      have hks := lev3_spec (A := A) (B := B) (C := C) (x, y, z)
      generalize hv : lev3 A B C (x, y, z) = v at *
      have HV := Lib.hid hv
      clear hv e0 e1 e2 e3 e4 e5 x0 x1 x2 c0 hlk
      go_upto_region 10 with fail
      have h2 := ((hh.below hbW).alloc (.cells #[.int .i64 0, .int .i64 0, .int .i64 0] 292)).alloc (.cells #[.int .i64 0, .int .i64 0, .int .i64 0] 292)
      have hbm := Mod.of_below (S := fun _ => False) hbW
      have gx2 := ((gx.mod hbm (fun h => h)).alloc (.cells #[.int .i64 0, .int .i64 0, .int .i64 0] 292)).alloc (.cells #[.int .i64 0, .int .i64 0, .int .i64 0] 292)
      have gl := (Blk.new wc #[.int .i64 0, .int .i64 0, .int .i64 0] 292).alloc (.cells #[.int .i64 0, .int .i64 0, .int .i64 0] 292)
      have gh := Blk.new (wc.alloc (.cells #[.int .i64 0, .int .i64 0, .int .i64 0] 292)) #[.int .i64 0, .int .i64 0, .int .i64 0] 292
      have sz1 : (wc.alloc (.cells #[.int .i64 0, .int .i64 0, .int .i64 0] 292)).heap.size = wc.heap.size + 1 := by simp
      rw [sz1] at gh
      have mW := ((Mod.of_below (S := fun _ => False) hbW).alloc (.cells #[.int .i64 0, .int .i64 0, .int .i64 0] 292)).alloc (.cells #[.int .i64 0, .int .i64 0, .int .i64 0] 292)
      have lW := hbW.size
      clear sz1 hbW hbm
      generalize ((wc.alloc (.cells #[.int .i64 0, .int .i64 0, .int .i64 0] 292)).alloc (.cells #[.int .i64 0, .int .i64 0, .int .i64 0] 292)) = W2 at *
      generalize wc.heap.size = lb at *
      have hlb := gl.lt
      have hhb := gh.lt
      have hxb : w.heap.size ≠ lb := by omega
      have hxb' : w.heap.size ≠ lb + 1 := by omega
      have hal := h2.arr
      have hkl2 := hal.lt
      have hlW : kl < lb := by have := hh.arr.lt; omega
      have hxW : w.heap.size < lb := by omega
      have hnl : ¬ (kl = lb ∨ kl = lb + 1) := by omega
      have hnx : ¬ (w.heap.size = lb ∨ w.heap.size = lb + 1) := by omega
      have hb0 := hh.bel.size
      have hBel : ∀ wr, Mod (fun q => q = lb ∨ q = lb + 1) W2 wr → Below W.heap.size W wr := fun wr hm =>
        (Mod.trans' (T := fun q => q = lb ∨ q = lb + 1) mW hm (fun _ _ h => h.elim) (fun _ _ h => h)).below (Nat.le_refl _) (fun k hk h => by omega)
      go_upto_block 0 with fail
      go_cut [] (fun wx => LH (low3 A B C (x, y, z) v) (high3 A B C (x, y, z) v) lb (lb + 1) W2 3 wx)
      case first =>
        go_wp2_with fail
        go_loopw [13, 64] (fun _ i wr => ∃ k : Nat, k ≤ 3 ∧ i = .int .i64 k ∧ LH (low3 A B C (x, y, z) v) (high3 A B C (x, y, z) v) lb (lb + 1) W2 k wr) (fun _ i _ => 3 - (intOf i).toNat)
        case atStart => exact ⟨0, by omega, rfl, gl, gh, Mod.refl _ _⟩
        case round =>
          obtain ⟨k, hk3, rfl, q1, q2, q3⟩ := hrel
          obtain rfl | rfl | rfl | rfl : k = 0 ∨ k = 1 ∨ k = 2 ∨ k = 3 := by omega
          · have e0 := (hal.mod q3 hnl).cell 0
            have e1 := (hal.mod q3 hnl).cell 1
            have x0 := (gx2.mod q3 hnx).cell 0
            have RN := RA.below (hBel _ q3)
            have sq1 := q1.lt
            have sq2 := q2.lt
            have skl := (hal.mod q3 hnl).lt
            have sxl := (gx2.mod q3 hnx).lt
            simp at e0 e1 x0
            go_wp2_with fail
            go_region_with ((go_at_call 173; refine (sides_any A _ _ v aA cA _ (by exact RN) (by omega) (by assumption) (by assumption) (by omega)).mono ?_; rintro e w1 ⟨rfl, hb⟩; have z1 := q1.drew.mod (Mod.of_below (S := fun _ => False) hb) (fun h => h); have z2 := q2.drew.mod (Mod.of_below (S := fun _ => False) hb) (fun h => h); have z3 := z1.cell 0; have z4 := z2.cell 0; have z5 := z1.frozen 0; have z6 := z2.frozen 0; simp at z3 z4))
            all_goals
              go_wp2_with fail
              go_roundw
              case rel => exact ⟨1, by omega, by rfl, LH.step (by omega) (by simp [low3]) (by simp [high3]) ⟨q1, q2, q3⟩ hb⟩
              case measure => simp [intOf]
          · have e0 := (hal.mod q3 hnl).cell 2
            have e1 := (hal.mod q3 hnl).cell 3
            have x0 := (gx2.mod q3 hnx).cell 1
            have RN := RB.below (hBel _ q3)
            have sq1 := q1.lt
            have sq2 := q2.lt
            have skl := (hal.mod q3 hnl).lt
            have sxl := (gx2.mod q3 hnx).lt
            simp at e0 e1 x0
            go_wp2_with fail
            go_region_with ((go_at_call 173; refine (sides_any B _ _ v aB cB _ (by exact RN) (by omega) (by assumption) (by assumption) (by omega)).mono ?_; rintro e w1 ⟨rfl, hb⟩; have z1 := q1.drew.mod (Mod.of_below (S := fun _ => False) hb) (fun h => h); have z2 := q2.drew.mod (Mod.of_below (S := fun _ => False) hb) (fun h => h); have z3 := z1.cell 1; have z4 := z2.cell 1; have z5 := z1.frozen 1; have z6 := z2.frozen 1; simp at z3 z4))
            all_goals
              go_wp2_with fail
              go_roundw
              case rel => exact ⟨2, by omega, by rfl, LH.step (by omega) (by simp [low3]) (by simp [high3]) ⟨q1, q2, q3⟩ hb⟩
              case measure => simp [intOf]
          · have e0 := (hal.mod q3 hnl).cell 4
            have e1 := (hal.mod q3 hnl).cell 5
            have x0 := (gx2.mod q3 hnx).cell 2
            have RN := RC.below (hBel _ q3)
            have sq1 := q1.lt
            have sq2 := q2.lt
            have skl := (hal.mod q3 hnl).lt
            have sxl := (gx2.mod q3 hnx).lt
            simp at e0 e1 x0
            go_wp2_with fail
            go_region_with ((go_at_call 173; refine (sides_any C _ _ v aC cC _ (by exact RN) (by omega) (by assumption) (by assumption) (by omega)).mono ?_; rintro e w1 ⟨rfl, hb⟩; have z1 := q1.drew.mod (Mod.of_below (S := fun _ => False) hb) (fun h => h); have z2 := q2.drew.mod (Mod.of_below (S := fun _ => False) hb) (fun h => h); have z3 := z1.cell 2; have z4 := z2.cell 2; have z5 := z1.frozen 2; have z6 := z2.frozen 2; simp at z3 z4))
            all_goals
              go_wp2_with fail
              go_roundw
              case rel => exact ⟨3, by omega, by rfl, LH.step (by omega) (by simp [low3]) (by simp [high3]) ⟨q1, q2, q3⟩ hb⟩
              case measure => simp [intOf]
          · go_wp2_with fail
            go_meet
            exact ⟨q1, q2, q3⟩
      case rest =>
        have hcb := hBel _ hcut.2.2
        have hl3 := hcut.1
        have hh3 := hcut.2.1
        have hx3 := gx2.mod hcut.2.2 hnx
        simp only [Nat.reduceLT, if_true] at hl3 hh3
        have h4 := hh.below hcb
        have a0 := h4.atv.cell 0
        have l0 := hl3.cell 0
        have l1 := hl3.cell 1
        have l2 := hl3.cell 2
        have sat := h4.atv.lt
        simp at a0 l0 l1 l2
        have il := ihl _ _ h4
        clear ihl hcut gl gh hal h2 hBel
        have m0 := mw.trans (Mod.of_below hcb)
        go_wp2_with fail
        refine il.mono ?_
        rintro e w3 ⟨nv1, rfl, q1, q2, q3⟩
        have h5 := hh3.mod q2 (h4.notS hh3 (by decide) (by decide))
        have x5 := hx3.mod q2 (h4.notS hx3 (by decide) (by decide))
        have m3 := m0.trans q2
        have p3 : ∀ g, nv1.ownBlock = some g → nv.ownBlock = some g ∨ w.heap.size ≤ g := own_chain m0 (fun g e => .inl e) q3
        clear a0 l0 l1 l2 sat il hl3 hh3 hx3 hlb hhb hxb hxb' hkl2 hlW hxW hnl hnx mW lW gx2 hcb m0 q2 q3 RA RB RC
        have a0 := q1.atv.cell 0
        have b0 := q1.bvar.cell 0
        have l0 := h5.cell 0
        have l1 := h5.cell 1
        have l2 := h5.cell 2
        simp at a0 b0 l0 l1 l2
        go_upto_region 16 with fail
        have hbr := fun W nv' hB => bbranch_any w0.heap.size W bb bk nv' h'.2.nodes ⟨v, l.1, h'.1⟩ hB hlen
        simp only at hbr
        generalize hu : uniq h'.2.nodes ⟨v, l.1, h'.1⟩ = u at *
        have HU := Lib.hid hu
        clear hu
        go_cut [15] (fun s15 wx => s15 = .int .i64 u.2 ∧ CMid w0 A B C aA aB aC cA cB cC rA rB rC fo caps kop kmm bm kl kat kb bb bk w nv x y z ⟨u.1, h'.2.memo⟩ wx)
        case first =>
          go_region_held3 (fun w' => w'.cell? ⟨kb, 0, none⟩ = some (.pointer (some ⟨bb, 0, none⟩)) ∧ w'.cell? ⟨kat, 0, none⟩ = some (.func (.func 223) #[] #[.pointer (some ⟨kop, 0, none⟩), .pointer (some ⟨kmm, 0, none⟩), .pointer (some ⟨kl, 0, none⟩), .pointer (some ⟨kat, 0, none⟩), .pointer (some ⟨kb, 0, none⟩)]) ∧
              w'.cell? ⟨lb + 1, 0, none⟩ = some (.int .i64 (high3 A B C (x, y, z) v).1) ∧ w'.cell? ⟨lb + 1, 1, none⟩ = some (.int .i64 (high3 A B C (x, y, z) v).2.1) ∧ w'.cell? ⟨lb + 1, 2, none⟩ = some (.int .i64 (high3 A B C (x, y, z) v).2.2))
            (first | (exact ⟨j0, j1, j2, j3, j4⟩) | (exact ⟨k0, k1, k2, k3, k4⟩) | (exact ⟨b0, a0, l0, l1, l2⟩))
            (first | (go_at_call 223; refine (ihh _ nv1 (q1.below (w' := w3.drew) (Below.refl _ _).drew)).mono ?_; rintro e w4 ⟨nv2, rfl, r1, r2, r3⟩; have h6 := h5.drew.mod r2 ((q1.below (w' := w3.drew) (Below.refl _ _).drew).notS h5.drew (by decide) (by decide)); have k0 := r1.bvar.cell 0; have k1 := r1.atv.cell 0; have k2 := h6.cell 0; have k3 := h6.cell 1; have k4 := h6.cell 2; simp at k0 k1 k2 k3 k4) | (go_at_call 224; refine (hbr _ nv2 r1.bld).mono ?_; rintro e w5 ⟨nv3, rfl, t1, t2, t3'⟩; have h7 := h6.mod t2 (fun e => r1.notS h6 (by decide) (by decide) (.inr e)); have v7 := r1.bvar.mod t2 (fun e => r1.notS r1.bvar (by decide) (by decide) (.inr e)); have a7 := r1.atv.mod t2 (fun e => r1.notS r1.atv (by decide) (by decide) (.inr e)); have j0 := v7.cell 0; have j1 := a7.cell 0; have j2 := h7.cell 0; have j3 := h7.cell 1; have j4 := h7.cell 2; simp at j0 j1 j2 j3 j4))
          all_goals
            go_wp2_with fail
            go_meet
            have x6 := x5.drew.mod r2 ((q1.below (w' := w3.drew) (Below.refl _ _).drew).notS x5.drew (by decide) (by decide))
            have x7 := x6.mod t2 (fun e => r1.notS x6 (by decide) (by decide) (.inr e))
            have m5 := CmbS.chain m3.drew (fun g e => (p3 g e).imp id id) r2
            have p5 := own_chain m3.drew p3 r3
            have m7 := CmbS.chain m5 p5 (t2.mono (fun _ _ h => .inr h))
            have p7 := own_chain m5 p5 t3'
            have sb : Below w0.heap.size w4 w5 := t2.below r1.bel.size (by rintro k hk (e | e | e); (have := r1.bld.hb; omega); (have := r1.bld.hk; omega); (have := (r1.bld.own.lt e).1; omega))
            have nb : ¬ BldS bb bk nv2 bm := by rintro (e | e | e); exact r1.map.ne_blk r1.bld.blk e; exact r1.hmk e; exact r1.bld.own.ne_map e r1.map rfl
            exact ⟨rfl, nv3, ⟨r1.bel.trans sb, r1.opv.mod t2 (fun e => r1.notS r1.opv (by decide) (by decide) (.inr e)), r1.mem.mod t2 (fun e => r1.notS r1.mem (by decide) (by decide) (.inr e)), r1.map.mod t2 nb, r1.arr.mod t2 (fun e => r1.notS r1.arr (by decide) (by decide) (.inr e)), a7, v7, t1, r1.hbm, r1.hmk⟩, m7, p7, x7⟩
        case rest =>
          obtain ⟨rfl, nv3, y1, y2, y3, y4⟩ := hcut
          have c0 := y1.mem.cell 0
          have x0 := y4.cell 0
          have x1 := y4.cell 1
          have x2 := y4.cell 2
          simp at c0 x0 x1 x2
          go_wp2_with (at_mapUpdate; refine wpList_mapUpdate_at (by rfl) 290 _ _ _ (by rfl) 292 3 Tryz.underlying290 key_t3 bm h'.2.memo (by rfl) y1.map (x, y, z) (by rfl) u.2 (by rfl) ?_)
          intro w9 n1 n2 n3
          have HN := Lib.hid n3
          clear n3
          go_wp2_with fail
          go_ret
          rw [HV.out, HU.out]
          have nb : ∀ {k : Nat} {c : Array Value} {e : TypeId}, Blk wc k c e → ¬ k = bm := fun hk e => y1.map.ne_blk hk e.symm
          refine ⟨nv3, rfl, ⟨y1.bel.trans (n2.below y1.bel.size (fun k hk e => by have := y1.hbm; omega)), y1.opv.mod n2 (nb y1.opv), y1.mem.mod n2 (nb y1.mem), n1, y1.arr.mod n2 (nb y1.arr), y1.atv.mod n2 (nb y1.atv), y1.bvar.mod n2 (nb y1.bvar), ⟨y1.bld.blk.mod n2 (nb y1.bld.blk), y1.bld.own.mod n2 (fun g e e' => y1.bld.own.ne_map e y1.map e'), y1.bld.map.mod n2 (fun e => y1.hmk e.symm), y1.bld.hb, y1.bld.hk⟩, y1.hbm, y1.hmk⟩, y2.trans (n2.mono (fun _ _ e => .inl e)), y3⟩

theorem at_walk (w0 : World) (A B C : List Br) (oA : Ord A) (oB : Ord B) (oC : Ord C) (lA : A.length ≤ 4096) (lB : B.length ≤ 4096) (lC : C.length ≤ 4096) (aA aB aC : Option Addr) (hA : Rd w0 aA (brCells A)) (hB : Rd w0 aB (brCells B)) (hC : Rd w0 aC (brCells C)) (cA cB cC : Nat) (rA rB rC : Int) (fo : Nat) (caps : Array Value)
    (op : Bool → Bool → Bool → Bool) (hop : IsOp w0 fo caps op) (kop kmm bm kl kat kb bb bk : Nat) : ∀ (f : Nat) (k : K3) (s : CS) (nv : Value) (w : World),
    CmbW w0 A B C aA aB aC cA cB cC rA rB rC fo caps kop kmm bm kl kat kb bb bk w nv s → CInv A B C op s → inR A B C k → sum3 k < f →
    Calls Tryz.prog 223 #[t3 k, .pointer (some ⟨kop, 0, none⟩), .pointer (some ⟨kmm, 0, none⟩), .pointer (some ⟨kl, 0, none⟩), .pointer (some ⟨kat, 0, none⟩), .pointer (some ⟨kb, 0, none⟩)] w
      (CmbPost w0 A B C aA aB aC cA cB cC rA rB rC fo caps kop kmm bm kl kat kb bb bk w nv (atF A B C op f k s).1 (atF A B C op f k s).2) := by
  intro f
  induction f with
  | zero =>
    intro k s nv w _ _ hk hf
    obtain ⟨⟨a0, _⟩, ⟨b0, _⟩, c0, _⟩ := hk
    simp only [sum3] at hf
    omega
  | succ f ih =>
    intro k s nv w h hs hk hf
    unfold atF
    obtain ⟨x, y, z⟩ := k
    cases hc : isConst3 (x, y, z) with
    | true =>
      simp only [if_true]
      simp only [isConst3, Bool.and_eq_true, decide_eq_true_eq] at hc
      exact at_const w0 A B C aA aB aC cA cB cC rA rB rC fo caps op hop kop kmm bm kl kat kb bb bk w nv s x y z h hc.1.1 hc.1.2 hc.2
    | false =>
      simp only [Bool.false_eq_true, if_false]
      have hc' : 2 ≤ x ∨ (x < 2 ∧ 2 ≤ y) ∨ (x < 2 ∧ y < 2 ∧ 2 ≤ z) := by
        simp only [isConst3, Bool.and_eq_false_iff, decide_eq_false_iff_not] at hc
        omega
      cases hm : aget s.memo (x, y, z) with
      | some r => exact at_hit w0 A B C aA aB aC cA cB cC rA rB rC fo caps kop kmm bm kl kat kb bb bk w nv s x y z r h hc' hm
      | none =>
        obtain ⟨i1, i2, s1, s2, _, _, _⟩ := step3 (op := op) oA oB oC hk hc
        have hv := lev3_lt oA oB oC hk hc
        have pl := atF_ok oA oB oC f (low3 A B C (x, y, z) (lev3 A B C (x, y, z))) s hs i1 (by omega)
        have wl := fun W nv' hW => ih (low3 A B C (x, y, z) (lev3 A B C (x, y, z))) s nv' W hW hs i1 (by omega)
        generalize atF A B C op f (low3 A B C (x, y, z) (lev3 A B C (x, y, z))) s = l at *
        have ph := atF_ok oA oB oC f (high3 A B C (x, y, z) (lev3 A B C (x, y, z))) l.2 pl.inv i2 (by omega)
        have wh := fun W nv' hW => ih (high3 A B C (x, y, z) (lev3 A B C (x, y, z))) l.2 nv' W hW pl.inv i2 (by omega)
        generalize atF A B C op f (high3 A B C (x, y, z) (lev3 A B C (x, y, z))) l.2 = h' at *
        have hml := ph.inv.memo_le
        have hnl := ph.inv.len
        have hb : (A.length + 2) * ((B.length + 2) * (C.length + 2)) ≤ 4098 * (4098 * 4098) := Nat.mul_le_mul (by omega) (Nat.mul_le_mul (by omega) (by omega))
        exact at_new w0 A B C lA lB lC aA aB aC hA hB hC cA cB cC rA rB rC fo caps kop kmm bm kl kat kb bb bk w nv s x y z h hk hc' hm hv.2 l h' (by omega) wl wh
end Go.Proofs.YtpekmohnjpbkgaaGreatDoor

namespace Go.Proofs.YtpekmohnjpbkgaaGreatDoor
open Go Go.RowKit
set_option maxHeartbeats 1000000
set_option maxRecDepth 100000
attribute [local go_sem ↓] Go.wp_at_zero Go.wp_at_succ

theorem cell_two_stores {w : World} {k a b o x : Nat} {u v y : Value} (h : w.cell? ⟨o, x, none⟩ = some y) (hne : k ≠ o) : ((w.setCell ⟨k, a, none⟩ u).setCell ⟨k, b, none⟩ v).cell? ⟨o, x, none⟩ = some y := by
  rw [World.cell?_setCell_other (h := fun e => hne (congrArg Addr.block e)), World.cell?_setCell_other (h := fun e => hne (congrArg Addr.block e))]
  exact h

/-- The blocks that combine lays. -/
def cmbObjs (n : Nat) (a b c : Dg) (aA aB aC : Option Addr) (cA cB cC : Nat) (fo : Nat) (caps : Array Value) : List Obj :=
  [.cells #[.slice aA a.nodes.length cA, .int .i64 a.root, .slice aB b.nodes.length cB, .int .i64 b.root, .slice aC c.nodes.length cC, .int .i64 c.root] 250,
   .cells #[.func (.func fo) #[] caps] 251, .cells #[.slice none 0 0, .int .i64 0] 42, .map #[] 0, .cells #[.slice none 0 0, .map (some (n + 1 + 1 + 1))] 222,
   .cells #[.pointer (some ⟨n + 1 + 1 + 1 + 1, 0, none⟩)] 219, .map #[] 0, .cells #[.map (some (n + 1 + 1 + 1 + 1 + 1 + 1))] 290,
   .cells #[.func (.func 223) #[] #[.pointer (some ⟨n + 1, 0, none⟩), .pointer (some ⟨n + 1 + 1 + 1 + 1 + 1 + 1 + 1, 0, none⟩), .pointer (some ⟨n, 0, none⟩), .pointer (some ⟨n + 1 + 1 + 1 + 1 + 1 + 1 + 1 + 1, 0, none⟩), .pointer (some ⟨n + 1 + 1 + 1 + 1 + 1, 0, none⟩)]] 291]

theorem combine_start (w : World) (a b c : Dg) (aA aB aC : Option Addr) (cA cB cC : Nat) (fo : Nat) (caps : Array Value) :
    CmbW w a.nodes b.nodes c.nodes aA aB aC cA cB cC a.root b.root c.root fo caps (w.heap.size + 1) (w.heap.size + 1 + 1 + 1 + 1 + 1 + 1 + 1) (w.heap.size + 1 + 1 + 1 + 1 + 1 + 1) w.heap.size (w.heap.size + 1 + 1 + 1 + 1 + 1 + 1 + 1 + 1) (w.heap.size + 1 + 1 + 1 + 1 + 1) (w.heap.size + 1 + 1 + 1 + 1) (w.heap.size + 1 + 1 + 1)
      ((cmbObjs w.heap.size a b c aA aB aC cA cB cC fo caps).foldl World.alloc w) (.slice none 0 0) ⟨[], []⟩ ∧
    Blk ((cmbObjs w.heap.size a b c aA aB aC cA cB cC fo caps).foldl World.alloc w) (w.heap.size + 1 + 1) #[.slice none 0 0, .int .i64 0] 42 := by
  have g := allocs_get (cmbObjs w.heap.size a b c aA aB aC cA cB cC fo caps) w
  have hb := allocs_below (cmbObjs w.heap.size a b c aA aB aC cA cB cC fo caps) w
  refine ⟨⟨hb, g 1 _ rfl, g 7 _ rfl, ⟨by simp, #[], 0, g 6 _ rfl, rfl, rfl⟩, g 0 _ rfl, g 8 _ rfl, g 5 _ rfl, ⟨g 4 _ rfl, OwnBr.nil _ _, ⟨by simp [kn], #[], 0, g 3 _ rfl, rfl, rfl⟩, by omega, by omega⟩, by omega, by omega⟩, g 2 _ rfl⟩

theorem combine_any (w : World) (a b c : Dg) (oA : Ord a.nodes) (oB : Ord b.nodes) (oC : Ord c.nodes) (lA : a.nodes.length ≤ 4096) (lB : b.nodes.length ≤ 4096) (lC : c.nodes.length ≤ 4096)
    (hr : inR a.nodes b.nodes c.nodes (a.root, b.root, c.root)) (aA aB aC : Option Addr) (hA : Rd w aA (brCells a.nodes)) (hB : Rd w aB (brCells b.nodes)) (hC : Rd w aC (brCells c.nodes)) (cA cB cC : Nat) (fo : Nat) (caps : Array Value)
    (op : Bool → Bool → Bool → Bool) (hop : IsOp w fo caps op) :
    Calls Tryz.prog 175 #[.agg #[.slice aA a.nodes.length cA, .int .i64 a.root, .slice aB b.nodes.length cB, .int .i64 b.root, .slice aC c.nodes.length cC, .int .i64 c.root], .func (.func fo) #[] caps] w
      (DgPost w (numbered (atF a.nodes b.nodes c.nodes op ((sum3 (a.root, b.root, c.root)).toNat + 1) (a.root, b.root, c.root) ⟨[], []⟩).2.nodes (atF a.nodes b.nodes c.nodes op ((sum3 (a.root, b.root, c.root)).toNat + 1) (a.root, b.root, c.root) ⟨[], []⟩).1)) := by
  have hmm := @run_makeMap Tryz.prog
  have hmf : ∀ (fn : Fn) (first cap : Array Value) (w : World), (Instr.makeFunc fn first cap).run Tryz.prog w = .ok (.func fn first cap) w := fun _ _ _ _ => rfl
  obtain ⟨hs, hres⟩ := combine_start w a b c aA aB aC cA cB cC fo caps
  have wk := at_walk w a.nodes b.nodes c.nodes oA oB oC lA lB lC aA aB aC hA hB hC cA cB cC a.root b.root c.root fo caps op hop _ _ _ _ _ _ _ _ ((sum3 (a.root, b.root, c.root)).toNat + 1) (a.root, b.root, c.root) ⟨[], []⟩ _ _ (hs.below (w' := World.drew _) (Below.refl _ _).drew) CInv.init hr (by omega)
  have pk := atF_ok oA oB oC (op := op) ((sum3 (a.root, b.root, c.root)).toNat + 1) (a.root, b.root, c.root) ⟨[], []⟩ CInv.init hr (by omega)
  generalize atF a.nodes b.nodes c.nodes op ((sum3 (a.root, b.root, c.root)).toNat + 1) (a.root, b.root, c.root) ⟨[], []⟩ = r at *
  have hb := allocs_below (cmbObjs w.heap.size a b c aA aB aC cA cB cC fo caps) w
  have hsz := allocs_size (cmbObjs w.heap.size a b c aA aB aC cA cB cC fo caps) w
  generalize hos : (cmbObjs w.heap.size a b c aA aB aC cA cB cC fo caps).foldl World.alloc w = W9 at *
  simp only [cmbObjs, List.foldl_cons, List.foldl_nil] at hos
  have HO := Lib.hid hos
  clear hos
  go_enter Tryz.func175, Tryz.ntmps175
  go_upto_region 5 with (go_at_call 222; go_in)
  rw [HO.out]
  simp only [cmbObjs, List.length_cons, List.length_nil] at hsz
  have e0 := hs.arr.cell 1
  have e1 := hs.arr.cell 3
  have e2 := hs.arr.cell 5
  have e3 := hs.bvar.cell 0
  have e4 := hs.atv.cell 0
  simp at e0 e1 e2 e3 e4
  have r0 := pk.r0
  have r1 := pk.r1
  have hml := pk.inv.memo_le
  have hnl := pk.inv.len
  have hbd : (a.nodes.length + 2) * ((b.nodes.length + 2) * (c.nodes.length + 2)) ≤ 4098 * (4098 * 4098) := Nat.mul_le_mul (by omega) (Nat.mul_le_mul (by omega) (by omega))
  have hlen : r.2.nodes.length ≤ 1099511627700 := by omega
  clear hml hnl hbd HO hmm hmf
  go_region_held3 (fun w' => w'.cell? ⟨w.heap.size, 1, none⟩ = some (.int .i64 a.root) ∧ w'.cell? ⟨w.heap.size, 3, none⟩ = some (.int .i64 b.root) ∧ w'.cell? ⟨w.heap.size, 5, none⟩ = some (.int .i64 c.root) ∧
      w'.cell? ⟨w.heap.size + 1 + 1 + 1 + 1 + 1, 0, none⟩ = some (.pointer (some ⟨w.heap.size + 1 + 1 + 1 + 1, 0, none⟩)) ∧
      w'.cell? ⟨w.heap.size + 1 + 1 + 1 + 1 + 1 + 1 + 1 + 1, 0, none⟩ = some (.func (.func 223) #[] #[.pointer (some ⟨w.heap.size + 1, 0, none⟩), .pointer (some ⟨w.heap.size + 1 + 1 + 1 + 1 + 1 + 1 + 1, 0, none⟩), .pointer (some ⟨w.heap.size, 0, none⟩), .pointer (some ⟨w.heap.size + 1 + 1 + 1 + 1 + 1 + 1 + 1 + 1, 0, none⟩), .pointer (some ⟨w.heap.size + 1 + 1 + 1 + 1 + 1, 0, none⟩)]))
    (first | (exact ⟨cell_two_stores j0 (by omega), cell_two_stores j1 (by omega), cell_two_stores j2 (by omega), cell_two_stores j3 (by omega), cell_two_stores j4 (by omega)⟩) | (exact ⟨j0, j1, j2, j3, j4⟩) | (exact ⟨k0, k1, k2, k3, k4⟩) | (exact ⟨e0, e1, e2, e3, e4⟩) | (exact ⟨cell_two_stores j0 (by omega), cell_two_stores j1 (by omega), cell_two_stores j2 (by omega), cell_two_stores j3 (by omega), cell_two_stores j4 (by omega)⟩))
    (first | (go_at_call 223; refine wk.mono ?_; rintro e w10 ⟨nv1, rfl, q1, q2, q3⟩; have k0 := q1.arr.cell 1; have k1 := q1.arr.cell 3; have k2 := q1.arr.cell 5; have k3 := q1.bvar.cell 0; have k4 := q1.atv.cell 0; simp at k0 k1 k2 k3 k4; have b10 := hres.drew.mod q2 ((hs.below (w' := W9.drew) (Below.refl _ _).drew).notS hres.drew (by decide) (by decide)); obtain ⟨aN, capN, hnv⟩ := q1.bld.own.form; subst hnv; have k5 := q1.bld.blk.cell 0; simp at k5) | (go_at_call 154; refine (bdiagram_any r.2.nodes pk.inv.ord hlen aN capN _ r.1 w10 r0 r1 k5 q1.bld.own.rd).mono ?_; rintro e w11 ⟨aD, capD, rfl, d1, d2, d3⟩; obtain ⟨hc, hf⟩ := bcell d3; have b11 := b10.mod (Mod.of_below (S := fun _ => False) d3) (fun h => h); have j0 := cell_later d3 k0; have j1 := cell_later d3 k1; have j2 := cell_later d3 k2; have j3 := cell_later d3 k3; have j4 := cell_later d3 k4; have y0 := b11.cell 0; have y1 := b11.cell 1; have y2 := b11.frozen 0; have y3 := b11.frozen 1; simp at y0 y1; clear hc hf))
  go_wp2_with fail
  refine bodyPost_ret (v := .agg #[.slice aD (numbered r.2.nodes r.1).nodes.length capD, .int .i64 (numbered r.2.nodes r.1).root]) ?_ rfl ⟨aD, capD, rfl, ?_, fun b o e => ?_, ?_⟩
  · simp [results, Tryz.results175, go_sem, y0, y1]
  · refine d1.mod (S := fun k => k = w.heap.size + 1 + 1) (((Mod.refl (fun k => k = w.heap.size + 1 + 1) _).setCell (.inl rfl) _).setCell (.inl rfl) _) ?_
    intro b o e _ e'
    have h1 := d2 b o e
    have h2 := b10.lt
    omega
  · have h1 := d2 b o e
    have h2 := b10.lt
    omega
  · have m1 : Mod (fun k => w.heap.size ≤ k) w W9 := Mod.of_below hb
    have m2 : Mod (fun k => w.heap.size ≤ k) w w10 := (m1.drew).trans' q2 (fun _ _ h => h) (by
      rintro k _ (e | e | e | e)
      · omega
      · omega
      · omega
      · cases e)
    have m3 := (((m2.trans (Mod.of_below d3)).setCell (p := ⟨w.heap.size + 1 + 1, 0, none⟩) (.inl (by show w.heap.size ≤ w.heap.size + 1 + 1; omega)) (.slice aD (numbered r.2.nodes r.1).nodes.length capD)).setCell (p := ⟨w.heap.size + 1 + 1, 1, none⟩) (.inl (by show w.heap.size ≤ w.heap.size + 1 + 1; omega)) (.int .i64 (numbered r.2.nodes r.1).root))
    exact m3.below (Nat.le_refl _) (fun k hk h => by omega)

/-- The canonical set of an operation on three sets. -/
def comb (op : Bool → Bool → Bool → Bool) (a b c : Dg) : Dg :=
  let r := atF a.nodes b.nodes c.nodes op ((sum3 (a.root, b.root, c.root)).toNat + 1) (a.root, b.root, c.root) ⟨[], []⟩
  numbered r.2.nodes r.1

theorem comb_ok (op : Bool → Bool → Bool → Bool) {a b c : Dg} (ha : Valid a) (hb : Valid b) (hc : Valid c) : Valid (comb op a b c) ∧ ∀ x, (comb op a b c).den x = op (a.den x) (b.den x) (c.den x) := by
  have pk := atF_ok ha.ord hb.ord hc.ord (op := op) ((sum3 (a.root, b.root, c.root)).toNat + 1) (a.root, b.root, c.root) ⟨[], []⟩ CInv.init ⟨⟨ha.r0, ha.r1⟩, ⟨hb.r0, hb.r1⟩, hc.r0, hc.r1⟩ (by omega)
  refine ⟨numbered_valid pk.inv.ord pk.inv.nodup pk.r0 pk.r1, fun x => ?_⟩
  have h := numbered_den pk.inv.ord pk.r0 pk.r1
  unfold comb
  rw [h, pk.sem]
  rfl

theorem combine_valid (w : World) (a b c : Dg) (va : Valid a) (vb : Valid b) (vc : Valid c) (lA : a.nodes.length ≤ 4096) (lB : b.nodes.length ≤ 4096) (lC : c.nodes.length ≤ 4096)
    (aA aB aC : Option Addr) (hA : Rd w aA (brCells a.nodes)) (hB : Rd w aB (brCells b.nodes)) (hC : Rd w aC (brCells c.nodes)) (cA cB cC : Nat) (fo : Nat) (caps : Array Value)
    (op : Bool → Bool → Bool → Bool) (hop : IsOp w fo caps op) :
    Calls Tryz.prog 175 #[.agg #[.slice aA a.nodes.length cA, .int .i64 a.root, .slice aB b.nodes.length cB, .int .i64 b.root, .slice aC c.nodes.length cC, .int .i64 c.root], .func (.func fo) #[] caps] w
      (DgPost w (comb op a b c)) :=
  combine_any w a b c va.ord vb.ord vc.ord lA lB lC ⟨⟨va.r0, va.r1⟩, ⟨vb.r0, vb.r1⟩, vc.r0, vc.r1⟩ aA aB aC hA hB hC cA cB cC fo caps op hop
end Go.Proofs.YtpekmohnjpbkgaaGreatDoor
