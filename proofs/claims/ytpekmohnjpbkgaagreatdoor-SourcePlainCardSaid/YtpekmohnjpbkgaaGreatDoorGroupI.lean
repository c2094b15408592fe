/- What the reader of expressions makes is a tree in postorder; without a program. formula.Check at a formula in postorder. Sets that hang on few conditions have few branches; without a program. Files as the program reads them: plain functions on lists of bytes. -/
import Derived.Test.YtpekmohnjpbkgaaGreatDoorGroupH
import Derived.LoopN
import Derived.Test.YtpekmohnjpbkgaaGreatDoorGroupD
import Derived.Test.YtpekmohnjpbkgaaGreatDoorGroupE
namespace Go.Proofs.YtpekmohnjpbkgaaGreatDoor
open Go Go.RowKit

inductive Tr where
  | con (b : Bool)
  | var (v : Int)
  | neg (t : Tr)
  | bin (op : Int) (l r : Tr)

def Tr.size : Tr → Nat
  | con _ => 1
  | var _ => 1
  | neg t => t.size + 1
  | bin _ l r => l.size + r.size + 1
def Tr.post : Tr → Nat → List FN
  | con b, _ => [⟨if b then 1 else 0, 0, 0, 0⟩]
  | var v, _ => [⟨2, v, 0, 0⟩]
  | neg t, o => t.post o ++ [⟨3, 0, ((o + t.size - 1 : Nat) : Int), 0⟩]
  | bin op l r, o => l.post o ++ (r.post (o + l.size) ++ [⟨op, 0, ((o + l.size - 1 : Nat) : Int), ((o + l.size + r.size - 1 : Nat) : Int)⟩])
def Tr.eval : Tr → Cfg → Bool
  | con b, _ => b
  | var v, c => c v.toNat
  | neg t, c => !t.eval c
  | bin op l r, c => if op = 4 then l.eval c && r.eval c else l.eval c || r.eval c
/-- The conditions are below n, the operators are known. -/
def Tr.ok (n : Nat) : Tr → Prop
  | con _ => True
  | var v => 0 ≤ v ∧ v < n
  | neg t => t.ok n
  | bin op l r => (op = 4 ∨ op = 5) ∧ l.ok n ∧ r.ok n

theorem Tr.size_pos (t : Tr) : 1 ≤ t.size := by cases t <;> simp [Tr.size]
theorem Tr.post_length (t : Tr) : ∀ o, (t.post o).length = t.size := by
  induction t with
  | con b => intro o; rfl
  | var v => intro o; rfl
  | neg t ih => intro o; simp [Tr.post, Tr.size, ih]
  | bin op l r ihl ihr => intro o; simp [Tr.post, Tr.size, ihl, ihr]; omega
theorem Tr.ok_mono {n m : Nat} (h : n ≤ m) : ∀ t : Tr, t.ok n → t.ok m
  | con _, _ => trivial
  | var v, k => ⟨k.1, by have := k.2; omega⟩
  | neg t, k => Tr.ok_mono h t k
  | bin op l r, k => ⟨k.1, Tr.ok_mono h l k.2.1, Tr.ok_mono h r k.2.2⟩

/-! ### Each node but the last is used once -/

def opsOf (n : FN) : List Int := if n.op = 3 then [n.a] else if n.op = 4 ∨ n.op = 5 then [n.a, n.b] else []
def usesF (F : List FN) : List Int := F.flatMap opsOf
theorem usesF_append (F G : List FN) : usesF (F ++ G) = usesF F ++ usesF G := by simp [usesF]
def rng (o k : Nat) : List Int := (List.range' o k).map fun i : Nat => (i : Int)
theorem rng_succ (o k : Nat) : rng o (k + 1) = rng o k ++ [((o + k : Nat) : Int)] := by
  unfold rng
  rw [List.range'_concat]
  simp
theorem rng_append (o j k : Nat) : rng o (j + k) = rng o j ++ rng (o + j) k := by
  unfold rng
  rw [← List.range'_append_1, List.map_append]
theorem rng_mem (o k : Nat) (x : Int) : x ∈ rng o k ↔ (o : Int) ≤ x ∧ x < o + k := by
  unfold rng
  simp only [List.mem_map, List.mem_range'_1]
  constructor
  · rintro ⟨i, h, rfl⟩; omega
  · intro h; exact ⟨x.toNat, by omega, by omega⟩
theorem rng_nodup (o k : Nat) : (rng o k).Nodup := by
  unfold rng
  rw [List.nodup_iff_pairwise_ne, List.pairwise_map]
  refine List.Pairwise.imp (fun h => ?_) (List.nodup_iff_pairwise_ne.1 List.nodup_range')
  intro e
  exact h (by omega)

theorem Tr.post_uses (n : Nat) (t : Tr) (ht : t.ok n) : ∀ o, (usesF (t.post o)).Perm (rng o (t.size - 1)) := by
  induction t with
  | con b => intro o; cases b <;> simp [Tr.post, Tr.size, usesF, opsOf, rng]
  | var v => intro o; simp [Tr.post, Tr.size, usesF, opsOf, rng]
  | neg t ih =>
    intro o
    have hp := t.size_pos
    have e : Tr.size (.neg t) - 1 = (t.size - 1) + 1 := by simp only [Tr.size]; omega
    rw [e, rng_succ, Tr.post, usesF_append]
    refine (ih ht o).append ?_
    have : o + t.size - 1 = o + (t.size - 1) := by omega
    simp [usesF, opsOf, this]
  | bin op l r ihl ihr =>
    intro o
    have hp := l.size_pos
    have hq := r.size_pos
    have e : Tr.size (.bin op l r) - 1 = ((l.size - 1) + 1) + ((r.size - 1) + 1) := by simp only [Tr.size]; omega
    have e1 : o + l.size - 1 = o + (l.size - 1) := by omega
    have e2 : o + l.size + r.size - 1 = o + l.size + (r.size - 1) := by omega
    have e3 : o + (l.size - 1 + 1) = o + l.size := by omega
    have hop : usesF [(⟨op, 0, ((o + l.size - 1 : Nat) : Int), ((o + l.size + r.size - 1 : Nat) : Int)⟩ : FN)] = [((o + l.size - 1 : Nat) : Int)] ++ [((o + l.size + r.size - 1 : Nat) : Int)] := by
      rcases ht.1 with rfl | rfl <;> simp [usesF, opsOf]
    rw [e, rng_append, rng_succ, rng_succ, e3, Tr.post, usesF_append, usesF_append, hop, e1, e2]
    refine List.Perm.trans ((ihl ht.2.1 o).append ((ihr ht.2.2 _).append_right _)) ?_
    simp only [List.append_assoc]
    refine List.Perm.append_left _ ?_
    rw [← List.append_assoc, ← List.append_assoc]
    exact (List.perm_append_comm).append_right _

/-- What Check asks of node i. -/
structure NodeOk (F : List FN) (i : Nat) (n : FN) : Prop where
  ar : (n.op = 0 ∨ n.op = 1) ∧ n.var = 0 ∧ n.a = 0 ∧ n.b = 0 ∨ n.op = 2 ∧ 0 ≤ n.var ∧ n.var < 64 ∧ n.a = 0 ∧ n.b = 0 ∨ n.op = 3 ∧ n.var = 0 ∧ n.b = 0 ∧ 0 ≤ n.a ∧ n.a < i ∨
    (n.op = 4 ∨ n.op = 5) ∧ n.var = 0 ∧ 0 ≤ n.a ∧ 0 ≤ n.b ∧ n.a < i ∧ n.b < i
structure WfF (F : List FN) : Prop where
  ne : F ≠ []
  le : F.length ≤ 512
  node : ∀ i n, F[i]? = some n → NodeOk F i n
  once : (usesF F).Nodup
  all : ∀ i : Nat, i + 1 < F.length → (i : Int) ∈ usesF F

theorem Tr.node_ok (G : List FN) (t : Tr) (ht : t.ok 64) : ∀ o i n, (t.post o)[i]? = some n → NodeOk G (o + i) n := by
  induction t with
  | con b =>
    intro o i n h
    cases i with
    | zero => simp [Tr.post] at h; subst h; exact ⟨.inl ⟨by cases b <;> simp, rfl, rfl, rfl⟩⟩
    | succ i => simp [Tr.post] at h
  | var v =>
    intro o i n h
    cases i with
    | zero => simp [Tr.post] at h; subst h; exact ⟨.inr (.inl ⟨rfl, ht.1, by have := ht.2; show v < 64; omega, rfl, rfl⟩)⟩
    | succ i => simp [Tr.post] at h
  | neg t ih =>
    intro o i n h
    have hl := t.post_length o
    have hp := t.size_pos
    rw [Tr.post] at h
    rcases Nat.lt_or_ge i t.size with hi | hi
    · rw [List.getElem?_append_left (by omega)] at h
      exact ih ht o i n h
    · rw [List.getElem?_append_right (by omega), hl] at h
      have h0 : i = t.size := by
        rcases Nat.lt_or_ge (i - t.size) 1 with h1 | h1
        · omega
        · rw [List.getElem?_eq_none (by simpa using h1)] at h; cases h
      subst h0
      simp at h
      subst h
      exact ⟨.inr (.inr (.inl ⟨rfl, rfl, rfl, by show (0 : Int) ≤ ((o + t.size - 1 : Nat) : Int); omega, by show ((o + t.size - 1 : Nat) : Int) < _; omega⟩))⟩
  | bin op l r ihl ihr =>
    intro o i n h
    have hl := l.post_length o
    have hr := r.post_length (o + l.size)
    have hp := l.size_pos
    have hq := r.size_pos
    rw [Tr.post] at h
    rcases Nat.lt_or_ge i l.size with hi | hi
    · rw [List.getElem?_append_left (by omega)] at h
      exact ihl ht.2.1 o i n h
    · rw [List.getElem?_append_right (by omega), hl] at h
      rcases Nat.lt_or_ge (i - l.size) r.size with hj | hj
      · rw [List.getElem?_append_left (by omega)] at h
        have := ihr ht.2.2 (o + l.size) _ n h
        rwa [show o + l.size + (i - l.size) = o + i by omega] at this
      · rw [List.getElem?_append_right (by omega), hr] at h
        have h0 : i - l.size = r.size := by
          rcases Nat.lt_or_ge (i - l.size - r.size) 1 with h1 | h1
          · omega
          · rw [List.getElem?_eq_none (by simpa using h1)] at h; cases h
        rw [h0] at h
        simp at h
        subst h
        exact ⟨.inr (.inr (.inr ⟨ht.1, rfl, by show (0 : Int) ≤ ((o + l.size - 1 : Nat) : Int); omega, by show (0 : Int) ≤ ((o + l.size + r.size - 1 : Nat) : Int); omega, by show ((o + l.size - 1 : Nat) : Int) < _; omega, by show ((o + l.size + r.size - 1 : Nat) : Int) < _; omega⟩))⟩

theorem Tr.wf (t : Tr) (ht : t.ok 64) (hs : t.size ≤ 512) : WfF (t.post 0) := by
  have hp := t.size_pos
  have hl := t.post_length 0
  have hu := t.post_uses 64 ht 0
  refine ⟨fun e => ?_, by omega, fun i n h => by simpa using t.node_ok (t.post 0) ht 0 i n h, hu.nodup_iff.2 (rng_nodup _ _), fun i hi => ?_⟩
  · rw [e] at hl; simp at hl; omega
  · exact hu.mem_iff.2 ((rng_mem _ _ _).2 ⟨by omega, by omega⟩)

/-! ### What the nodes mean -/

def nodeSem (S : List (Cfg → Bool)) (n : FN) : Cfg → Bool := fun c =>
  if n.op = 1 then true else if n.op = 2 then c n.var.toNat else if n.op = 3 then !(S.getD n.a.toNat (fun _ => false)) c
  else if n.op = 4 then (S.getD n.a.toNat (fun _ => false)) c && (S.getD n.b.toNat (fun _ => false)) c
  else if n.op = 5 then (S.getD n.a.toNat (fun _ => false)) c || (S.getD n.b.toNat (fun _ => false)) c else false
def semsF (F : List FN) (S : List (Cfg → Bool)) : List (Cfg → Bool) := F.foldl (fun S n => S ++ [nodeSem S n]) S
theorem semsF_snoc (F : List FN) (n : FN) (S : List (Cfg → Bool)) : semsF (F ++ [n]) S = semsF F S ++ [nodeSem (semsF F S) n] := by simp [semsF]
theorem semsF_append (F G : List FN) (S : List (Cfg → Bool)) : semsF (F ++ G) S = semsF G (semsF F S) := by simp [semsF]
theorem semsF_length (F : List FN) : ∀ S, (semsF F S).length = S.length + F.length := by
  induction F with
  | nil => intro S; rfl
  | cons n F ih => intro S; show (semsF F (S ++ [nodeSem S n])).length = _; rw [ih]; simp; omega
theorem semsF_prefix (F : List FN) : ∀ S, ∃ T, semsF F S = S ++ T ∧ T.length = F.length := by
  induction F with
  | nil => intro S; exact ⟨[], by simp [semsF], rfl⟩
  | cons n F ih =>
    intro S
    obtain ⟨T, h, hl⟩ := ih (S ++ [nodeSem S n])
    exact ⟨nodeSem S n :: T, by show semsF F _ = _; rw [h]; simp, by simp [hl]⟩
theorem Tr.sems (n : Nat) (t : Tr) (ht : t.ok n) : ∀ S, ∃ T, semsF (t.post S.length) S = S ++ (T ++ [t.eval]) ∧ T.length + 1 = t.size := by
  induction t with
  | con b =>
    intro S
    refine ⟨[], ?_, rfl⟩
    cases b <;> simp [Tr.post, semsF, nodeSem] <;> rfl
  | var v =>
    intro S
    refine ⟨[], ?_, rfl⟩
    simp [Tr.post, semsF, nodeSem]
    rfl
  | neg t ih =>
    intro S
    obtain ⟨T, h, hl⟩ := ih ht S
    refine ⟨T ++ [t.eval], ?_, by simp [Tr.size]; omega⟩
    rw [Tr.post, semsF_snoc, h]
    have e : (S ++ (T ++ [t.eval])).getD (S.length + t.size - 1) (fun _ => false) = t.eval := by
      rw [List.getD_eq_getElem?_getD, ← List.append_assoc, List.getElem?_append_right (by simp; omega)]
      have : S.length + t.size - 1 - (S ++ T).length = 0 := by simp; omega
      rw [this]; rfl
    have e2 : nodeSem (S ++ (T ++ [t.eval])) ⟨3, 0, ((S.length + t.size - 1 : Nat) : Int), 0⟩ = (Tr.neg t).eval := by
      funext c
      simp only [nodeSem, Int.toNat_natCast, e, Tr.eval]
      simp
    rw [e2]
    simp
  | bin op l r ihl ihr =>
    intro S
    obtain ⟨T, h, hl⟩ := ihl ht.2.1 S
    obtain ⟨U, h2, hl2⟩ := ihr ht.2.2 (S ++ (T ++ [l.eval]))
    refine ⟨T ++ [l.eval] ++ U ++ [r.eval], ?_, by simp [Tr.size]; omega⟩
    have hlen : (S ++ (T ++ [l.eval])).length = S.length + l.size := by simp; omega
    rw [hlen] at h2
    rw [Tr.post, semsF_append, h, semsF_snoc, h2]
    have e1 : (S ++ (T ++ [l.eval]) ++ (U ++ [r.eval])).getD (S.length + l.size - 1) (fun _ => false) = l.eval := by
      rw [List.getD_eq_getElem?_getD, List.getElem?_append_left (by simp; omega), ← List.append_assoc, List.getElem?_append_right (by simp; omega)]
      have : S.length + l.size - 1 - (S ++ T).length = 0 := by simp; omega
      rw [this]; rfl
    have e2 : (S ++ (T ++ [l.eval]) ++ (U ++ [r.eval])).getD (S.length + l.size + r.size - 1) (fun _ => false) = r.eval := by
      rw [List.getD_eq_getElem?_getD, ← List.append_assoc (S ++ (T ++ [l.eval])), List.getElem?_append_right (by simp; omega)]
      have : S.length + l.size + r.size - 1 - (S ++ (T ++ [l.eval]) ++ U).length = 0 := by simp; omega
      rw [this]; rfl
    have e3 : nodeSem (S ++ (T ++ [l.eval]) ++ (U ++ [r.eval])) ⟨op, 0, ((S.length + l.size - 1 : Nat) : Int), ((S.length + l.size + r.size - 1 : Nat) : Int)⟩ = (Tr.bin op l r).eval := by
      funext c
      simp only [nodeSem, Int.toNat_natCast, e1, e2, Tr.eval]
      rcases ht.1 with rfl | rfl <;> simp
    rw [e3]
    simp
theorem Tr.sems_last (n : Nat) (t : Tr) (ht : t.ok n) : (semsF (t.post 0) []).getD (t.size - 1) (fun _ => false) = t.eval := by
  obtain ⟨T, h, hl⟩ := t.sems n ht []
  simp only [List.length_nil, List.nil_append] at h
  rw [h, List.getD_eq_getElem?_getD, List.getElem?_append_right (by omega)]
  have : t.size - 1 - T.length = 0 := by omega
  rw [this]; rfl

/-! ### The reader makes trees -/

/-- A part of the reader adds a tree, of which it answers the root. -/
def Adds (n : Nat) (o : PS → Option (Int × PS)) : Prop := ∀ s a s', o s = some (a, s') →
  (s.u = true → s'.u = true) ∧ (s'.u = false → ∃ t : Tr, t.ok n ∧ s'.F = s.F ++ t.post s.F.length ∧ a = ((s.F.length + t.size - 1 : Nat) : Int))

theorem wordF_adds (n : Nat) (M : List (List UInt8 × Int)) (hM : ∀ w v, aget M w = some v → 0 ≤ v ∧ v < n) : Adds n (wordF M) := by
  intro s a s' h
  simp only [wordF] at h
  by_cases h0 : identLen s.rest = 0
  · rw [if_pos h0] at h; cases h
  rw [if_neg h0] at h
  by_cases h1 : s.rest.take (identLen s.rest) = sTrue
  · rw [if_pos h1] at h
    cases h
    exact ⟨fun h => h, fun _ => ⟨.con true, trivial, rfl, by simp [Tr.size]⟩⟩
  rw [if_neg h1] at h
  by_cases h2 : s.rest.take (identLen s.rest) = sFalse
  · rw [if_pos h2] at h
    cases h
    exact ⟨fun h => h, fun _ => ⟨.con false, trivial, rfl, by simp [Tr.size]⟩⟩
  rw [if_neg h2] at h
  cases h
  refine ⟨fun h => by simp [putP, h], fun h => ?_⟩
  simp only [putP, Bool.or_eq_false_iff, Bool.not_eq_false'] at h
  obtain ⟨v, hv⟩ := Option.isSome_iff_exists.1 h.2
  refine ⟨.var v, hM _ _ hv, ?_, by simp [Tr.size]⟩
  simp [putP, hv, Tr.post]

theorem loopF_adds {n : Nat} {o : PS → Option (Int × PS)} (ho : Adds n o) {sym : List UInt8} {op : Int} (hop : op = 4 ∨ op = 5) (F0 : List FN) : ∀ (g : Nat) (a : Int) (s : PS) (b : Int) (s' : PS), loopF o sym op g a s = some (b, s') →
    (s.u = true → s'.u = true) ∧ (s'.u = false → (∃ t : Tr, t.ok n ∧ s.F = F0 ++ t.post F0.length ∧ a = ((F0.length + t.size - 1 : Nat) : Int)) → ∃ t : Tr, t.ok n ∧ s'.F = F0 ++ t.post F0.length ∧ b = ((F0.length + t.size - 1 : Nat) : Int)) := by
  intro g
  induction g with
  | zero => intro a s b s' h; cases h
  | succ g ih =>
    intro a s b s' h
    simp only [loopF] at h
    by_cases hs : (skipP sym s).1 = false
    · rw [if_pos hs] at h
      cases h
      exact ⟨fun h => h, fun _ h => h⟩
    · rw [if_neg hs] at h
      cases ho' : o (skipP sym s).2 with
      | none => rw [ho'] at h; cases h
      | some p =>
        obtain ⟨b1, s2⟩ := p
        rw [ho'] at h
        obtain ⟨k1, k2⟩ := ho _ _ _ ho'
        obtain ⟨j1, j2⟩ := ih _ _ _ _ h
        refine ⟨fun hu => j1 (k1 hu), fun hu ht => ?_⟩
        have hu2 : s2.u = false := by
          cases hx : s2.u with
          | false => rfl
          | true => have := j1 (by simpa [putP] using hx); rw [this] at hu; cases hu
        obtain ⟨t, t1, t2, t3⟩ := ht
        obtain ⟨r, r1, r2, r3⟩ := k2 hu2
        have hsF : (skipP sym s).2.F = s.F := rfl
        rw [hsF] at r2 r3
        refine j2 hu ⟨.bin op t r, ⟨hop, t1, r1⟩, ?_, ?_⟩
        · have e : s.F.length = F0.length + t.size := by rw [t2]; simp [t.post_length]
          simp only [putP]
          rw [r2, r3, e, t2, t3]
          simp [Tr.post]
        · have e : s.F.length = F0.length + t.size := by rw [t2]; simp [t.post_length]
          simp only [putP]
          rw [r2]
          simp [r.post_length, e, Tr.size]
          omega
theorem exprF_adds {n : Nat} {o : PS → Option (Int × PS)} (ho : Adds n o) {sym : List UInt8} {op : Int} (hop : op = 4 ∨ op = 5) : Adds n (exprF o sym op) := by
  intro s a s' h
  simp only [exprF] at h
  cases ho' : o s with
  | none => rw [ho'] at h; cases h
  | some p =>
    obtain ⟨b1, s2⟩ := p
    rw [ho'] at h
    obtain ⟨k1, k2⟩ := ho _ _ _ ho'
    obtain ⟨j1, j2⟩ := loopF_adds ho hop s.F _ _ _ _ _ h
    refine ⟨fun hu => j1 (k1 hu), fun hu => j2 hu (k2 ?_)⟩
    cases hx : s2.u with
    | false => rfl
    | true => have := j1 hx; rw [this] at hu; cases hu
theorem factorF_adds (n : Nat) (M : List (List UInt8 × Int)) (hM : ∀ w v, aget M w = some v → 0 ≤ v ∧ v < n) : ∀ f, Adds n (factorF M f) := by
  intro f
  induction f with
  | zero => intro s a s' h; cases h
  | succ f ih =>
    intro s a s' h
    simp only [factorF] at h
    by_cases hs : (skipP [33] s).1 = true
    · rw [if_pos hs] at h
      cases ho : factorF M f (skipP [33] s).2 with
      | none => rw [ho] at h; cases h
      | some p =>
        obtain ⟨b1, s2⟩ := p
        rw [ho] at h
        obtain ⟨k1, k2⟩ := ih _ _ _ ho
        cases h
        refine ⟨fun hu => k1 hu, fun hu => ?_⟩
        obtain ⟨t, t1, t2, t3⟩ := k2 hu
        have hsF : (skipP [33] s).2.F = s.F := rfl
        rw [hsF] at t2 t3
        have hp := t.size_pos
        refine ⟨.neg t, t1, ?_, ?_⟩
        · simp only [putP]
          rw [t2, t3]
          simp [Tr.post]
        · rw [t2]
          simp [t.post_length, Tr.size]
    · rw [if_neg hs] at h
      by_cases hp : (skipP [40] (skipP [33] s).2).1 = true
      · rw [if_pos hp] at h
        cases ho : wholeF (factorF M f) (skipP [40] (skipP [33] s).2).2 with
        | none => rw [ho] at h; cases h
        | some p =>
          obtain ⟨b1, s2⟩ := p
          rw [ho] at h
          have k := exprF_adds (exprF_adds ih (sym := sAnd) (op := 4) (.inl rfl)) (sym := sOr) (op := 5) (.inr rfl) _ _ _ ho
          by_cases hc : (skipP [41] s2).1 = true
          · simp only [hc, if_true] at h
            cases h
            exact k
          · simp only [hc] at h
            cases h
      · rw [if_neg hp] at h
        exact wordF_adds n M hM (skipP [40] (skipP [33] s).2).2 a s' h

theorem aget_aset_eq {K V : Type} [DecidableEq K] (m : List (K × V)) (k k' : K) (v : V) : aget (aset m k v) k' = if k' = k then some v else aget m k' := aget_aset m k k' v
theorem numG_get (L : List (List UInt8)) : ∀ (k : Nat) (m : List (List UInt8 × Int)) (w : List UInt8) (v : Int), aget (numG L k m) w = some v → (∃ i : Nat, i < L.length ∧ v = ((k + i : Nat) : Int) ∧ L[i]? = some w) ∨ aget m w = some v := by
  induction L with
  | nil => intro k m w v h; exact .inr h
  | cons s L ih =>
    intro k m w v h
    rcases ih (k + 1) _ w v h with ⟨i, h1, h2, h3⟩ | h
    · exact .inl ⟨i + 1, by simp; omega, by rw [h2]; congr 1; omega, by simpa using h3⟩
    · rw [aget_aset] at h
      split at h
      · rename_i e
        cases h
        exact .inl ⟨0, by simp, by simp, by simp [e]⟩
      · exact .inr h
theorem numG_range (L : List (List UInt8)) (w : List UInt8) (v : Int) (h : aget (numG L 0 []) w = some v) : 0 ≤ v ∧ v < L.length ∧ L[v.toNat]? = some w := by
  rcases numG_get L 0 [] w v h with ⟨i, h1, rfl, h3⟩ | h
  · exact ⟨by omega, by omega, by simpa using h3⟩
  · cases h

/-- The formula that Parse answers is a tree over the names. -/
theorem parseF_tree {L : List (List UInt8)} {l : List UInt8} (h : (parseF L l).2 = 0) : ∃ t : Tr, t.ok L.length ∧ (parseF L l).1 = t.post 0 ∧ t.size ≤ 512 ∧ L.length ≤ 64 := by
  unfold parseF at h ⊢
  by_cases hn : namesOk L = false
  · rw [if_pos hn] at h; cases h
  rw [if_neg hn] at h ⊢
  have hL : L.length ≤ 64 := by
    rw [Bool.not_eq_false] at hn
    unfold namesOk at hn
    simp at hn
    exact hn.2.2
  cases hw : wholeF (factorF (numG L 0 []) (l.length + 1)) ⟨[], l, false⟩ with
  | none => rw [hw] at h; cases h
  | some p =>
    obtain ⟨a, s⟩ := p
    rw [hw] at h
    simp only at h ⊢
    have k := exprF_adds (exprF_adds (factorF_adds L.length (numG L 0 []) (fun w v h => ⟨(numG_range L w v h).1, (numG_range L w v h).2.1⟩) (l.length + 1)) (sym := sAnd) (op := 4) (.inl rfl)) (sym := sOr) (op := 5) (.inr rfl) _ _ _ hw
    by_cases h1 : (skipP [] s).2.rest ≠ []
    · rw [if_pos h1] at h; cases h
    rw [if_neg h1] at h ⊢
    by_cases h2 : s.u = true
    · rw [if_pos h2] at h; cases h
    rw [if_neg h2] at h ⊢
    by_cases h3 : 512 < s.F.length
    · rw [if_pos h3] at h; cases h
    rw [if_neg h3] at h ⊢
    obtain ⟨t, t1, t2, _⟩ := k.2 (by simpa using h2)
    simp only [List.nil_append, List.length_nil] at t2
    have := t.post_length 0
    rw [← t2] at this
    exact ⟨t, t1, t2, by omega, hL⟩
end Go.Proofs.YtpekmohnjpbkgaaGreatDoor

namespace Go.Proofs.YtpekmohnjpbkgaaGreatDoor
open Go Go.RowKit
set_option maxHeartbeats 1000000
set_option maxRecDepth 100000
attribute [local go_sem ↓] Go.wp_at_zero Go.wp_at_succ

def usedArr (U : List Int) : Array Value := ((List.range 512).map fun j : Nat => Value.bool (decide ((j : Int) ∈ U))).toArray
theorem usedArr_get (U : List Int) (j : Nat) (hj : j < 512) : (usedArr U)[j]? = some (.bool (decide ((j : Int) ∈ U))) := by
  simp [usedArr, hj]
theorem usedArr_set (U : List Int) (a : Int) (h0 : 0 ≤ a) (h1 : a < 512) : (usedArr U).setIfInBounds a.toNat (.bool true) = usedArr (U ++ [a]) := by
  apply Array.ext
  · simp [usedArr]
  · intro i h2 h3
    simp only [usedArr, List.size_toArray, List.length_map, List.length_range, Array.size_setIfInBounds] at h2
    rw [Array.getElem_setIfInBounds (by simpa [usedArr] using h2)]
    simp only [usedArr, List.getElem_toArray, List.getElem_map, List.getElem_range, List.mem_append, List.mem_singleton]
    by_cases hi : a.toNat = i
    · rw [if_pos hi]
      have : (i : Int) = a := by omega
      simp [this]
    · rw [if_neg hi]
      have : (i : Int) ≠ a := by omega
      simp [this]
theorem usedArr_nil : usedArr [] = Array.replicate 512 (.bool false) := by
  apply Array.ext
  · simp [usedArr]
  · intro i h2 h3
    simp [usedArr]

theorem zero335 : Tryz.zeroCells335 = usedArr [] := by rw [usedArr_nil]; kernel_rfl

theorem usesF_take {F : List FN} {i : Nat} {x : FN} (h : F[i]? = some x) : usesF (F.take (i + 1)) = usesF (F.take i) ++ opsOf x := by
  rw [List.take_add_one, h, usesF_append]
  simp [usesF]
theorem once_take {F : List FN} (hF : (usesF F).Nodup) {i : Nat} {x : FN} (h : F[i]? = some x) : (usesF (F.take i) ++ opsOf x).Nodup := by
  have e : F = F.take (i + 1) ++ F.drop (i + 1) := (List.take_append_drop _ _).symm
  rw [e, usesF_append, usesF_take h] at hF
  exact (List.nodup_append.1 hF).1

theorem arity_ok {F : List FN} {i : Nat} {n : FN} (h : NodeOk F i n) : (arityF n i = 0 ∧ opsOf n = []) ∨ (arityF n i = 1 ∧ opsOf n = [n.a] ∧ 0 ≤ n.a ∧ n.a < i) ∨ (arityF n i = 2 ∧ opsOf n = [n.a, n.b] ∧ 0 ≤ n.a ∧ n.a < i ∧ 0 ≤ n.b ∧ n.b < i) := by
  obtain ⟨op, var, a, b⟩ := n
  rcases h.ar with ⟨h1, h2, h3, h4⟩ | ⟨h1, h2, h3, h4, h5⟩ | ⟨h1, h2, h3, h4, h5⟩ | ⟨h1, h2, h3, h4, h5, h6⟩
  · left
    simp only at h1 h2 h3 h4
    rcases h1 with rfl | rfl <;> simp [arityF, opsOf, h2, h3, h4]
  · left
    simp only at h1 h2 h3 h4 h5
    subst h1
    simp [arityF, opsOf, h2, h3, h4, h5]
  · right; left
    simp only at h1 h2 h3 h4 h5
    subst h1
    simp [arityF, opsOf, h2, h3, h4, h5]
  · right; right
    simp only at h1 h2 h3 h4 h5 h6
    rcases h1 with rfl | rfl <;> simp [arityF, opsOf, h2, h3, h4, h5, h6]
theorem used_no {w : World} {k : Nat} {U : List Int} (h : Blk w k (usedArr U) 335) {a : Int} (h0 : 0 ≤ a) (h1 : a < 512) (hn : a ∉ U) : w.cell? ⟨k, a.toNat, none⟩ = some (.bool false) := by
  rw [h.cell, usedArr_get _ _ (by omega)]
  have : ((a.toNat : Nat) : Int) = a := by omega
  rw [this, decide_eq_false hn]
theorem used_yes {w : World} {k : Nat} {U : List Int} (h : Blk w k (usedArr U) 335) {j : Nat} (h1 : j < 512) (hn : (j : Int) ∈ U) : w.cell? ⟨k, j, none⟩ = some (.bool true) := by
  rw [h.cell, usedArr_get _ _ h1, decide_eq_true hn]
theorem used_put {w : World} {k : Nat} {U : List Int} (h : Blk w k (usedArr U) 335) {a : Int} (h0 : 0 ≤ a) (h1 : a < 512) : Blk (w.setCell ⟨k, a.toNat, none⟩ (.bool true)) k (usedArr (U ++ [a])) 335 := by
  rw [← usedArr_set U a h0 h1]
  exact h.setCell _ _

theorem fcheck_any (F : List FN) (hF : WfF F) (a : Option Addr) (cap : Nat) (hcap : F.length ≤ cap) (w : World) (hr : Rd w a (rowCells FN.cells F)) :
    Calls Tryz.prog 248 #[.slice a F.length cap] w fun e w' => e = .returned (.int .i64 0) ∧ Below w.heap.size w w' := by
  have hlen := hF.le
  have hne : 1 ≤ F.length := by
    cases hq : F with
    | nil => exact absurd hq hF.ne
    | cons x l => simp
  generalize hn : F.length = len at *
  have HN := Lib.hid hn
  clear hn
  have hne0 : ((len : Int) == 0) = false := by rw [beq_eq_false_iff_ne]; omega
  have k0 := Blk.new w (usedArr []) 335
  rw [← zero335] at k0
  have b0 : Below w.heap.size w (w.alloc (.cells Tryz.zeroCells335 335)) := (Below.refl _ _).alloc (Nat.le_refl _) _
  go_enter Tryz.func248, Tryz.ntmps248
  go_wp2_with fail
  go_loopg [20, 4, 5, 6, 8] (len + 1) (fun k ct u4 u5 u6 u8 wr => ∃ i : Nat, i ≤ len ∧ k + i = len + 1 ∧ ct = .int .i64 i ∧ Blk wr w.heap.size (usedArr (usesF (F.take i))) 335 ∧ Below w.heap.size w wr)
  case atStart => exact ⟨0, Nat.zero_le _, rfl, rfl, by rw [zero335] at k0; exact k0, b0⟩
  case round =>
    obtain ⟨i, hi, hk, rfl, k1, bw⟩ := hrel
    by_cases hlt : i < len
    · obtain ⟨x, hx⟩ : ∃ x, F[i]? = some x := ⟨F[i]'(by have := HN.out; omega), List.getElem?_eq_getElem _⟩
      obtain ⟨b, o, rfl, hb, hc⟩ := (hr.below bw).elem (c := 4) (fun _ => rfl) (by omega) hx
      have x0 := hc 0 (by omega)
      have x1 := hc 1 (by omega)
      have x2 := hc 2 (by omega)
      have x3 := hc 3 (by omega)
      have hnode := arity_ok (hF.node i x hx)
      have hnd := once_take hF.once hx
      have htk := usesF_take hx
      have i0 : (0 : Int) ≤ (i : Int) := by omega
      have i1 : (i : Int) < (len : Int) := by omega
      clear hc hx
      obtain ⟨op, var, na, nb⟩ := x
      simp [FN.cells] at x0 x1 x2 x3
      have har := arity_any ⟨op, var, na, nb⟩ i (wr.alloc (.cells #[.int .i64 op, .int .i64 var, .int .i64 na, .int .i64 nb] 309))
      simp only at har hnode
      have kx := Blk.new wr #[.int .i64 op, .int .i64 var, .int .i64 na, .int .i64 nb] 309
      have ku := k1.alloc (.cells #[.int .i64 op, .int .i64 var, .int .i64 na, .int .i64 nb] 309)
      have bwx := bw.alloc bw.size (.cells #[.int .i64 op, .int .i64 var, .int .i64 na, .int .i64 nb] 309)
      generalize hU : usesF (F.take i) = U at *
      clear hU k0 k1
      rcases hnode with ⟨ha, ho⟩ | ⟨ha, ho, p0, p1⟩ | ⟨ha, ho, p0, p1, q0, q1⟩
      · rw [ha] at har
        rw [ho] at htk
        have HT := Lib.hid htk
        clear ha ho htk hnd
        go_wp2_with fail
        refine har.mono ?_
        clear har
        rintro e w2 ⟨rfl, b2⟩
        have m2 := Mod.of_below (S := fun _ => False) b2
        have kx2 := kx.mod m2 (fun h => h)
        have ku2 := ku.mod m2 (fun h => h)
        have bw2 := bwx.trans (b2.mono bwx.size)
        have y2 := kx2.cell 2
        have y3 := kx2.cell 3
        have hkx := kx2.lt
        simp at y2 y3
        clear kx ku
        go_wp2_with fail
        refine wp_loop_rounds 1 ?_
        rw [rounds_succ]
        go_wp2_with fail
        go_roundg (len - i)
        case measure => omega
        case rel => exact ⟨i + 1, by omega, by omega, by go_num, by rw [HT.out]; simpa using ku2.alloc _, bw2.alloc bw2.size _⟩
      · rw [ha] at har
        rw [ho] at htk hnd
        have HT := Lib.hid htk
        have hna : na ∉ U := by
          intro h
          exact (List.nodup_append.1 hnd).2.2 na h na (by simp) rfl
        clear ha ho htk hnd
        go_wp2_with fail
        refine har.mono ?_
        clear har
        rintro e w2 ⟨rfl, b2⟩
        have m2 := Mod.of_below (S := fun _ => False) b2
        have kx2 := kx.mod m2 (fun h => h)
        have ku2 := ku.mod m2 (fun h => h)
        have bw2 := bwx.trans (b2.mono bwx.size)
        have y2 := kx2.cell 2
        have y3 := kx2.cell 3
        have hkx := kx2.lt
        simp at y2 y3
        have ku3 := ku2.alloc (.cells #[.int .i64 na, .int .i64 nb] 3)
        have c1 := used_no ku3 p0 (by omega) hna
        have hku3 := ku3.lt
        have f1 := ku3.frozen na.toNat
        have ku4 := used_put ku3 p0 (by omega)
        have bw3 := (bw2.alloc bw2.size (.cells #[.int .i64 na, .int .i64 nb] 3)).setCell (p := ⟨w.heap.size, na.toNat, none⟩) (Nat.le_refl _) (.bool true)
        clear kx ku
        go_wp2_with fail
        refine wp_loop_rounds 2 ?_
        rw [rounds_succ]
        go_wp2_with fail
        rw [rounds_succ]
        go_wp2_with fail
        go_roundg (len - i)
        case measure => omega
        case rel => exact ⟨i + 1, by omega, by omega, by go_num, by rw [HT.out]; exact ku4, bw3⟩
      · rw [ha] at har
        rw [ho] at htk hnd
        have HT := Lib.hid htk
        have hna : na ∉ U := by
          intro h
          exact (List.nodup_append.1 hnd).2.2 na h na (by simp) rfl
        have hnb : nb ∉ U ++ [na] := by
          intro h
          have e : U ++ [na, nb] = (U ++ [na]) ++ [nb] := by simp
          rw [e] at hnd
          exact (List.nodup_append.1 hnd).2.2 nb h nb (by simp) rfl
        clear ha ho htk hnd
        go_wp2_with fail
        refine har.mono ?_
        clear har
        rintro e w2 ⟨rfl, b2⟩
        have m2 := Mod.of_below (S := fun _ => False) b2
        have kx2 := kx.mod m2 (fun h => h)
        have ku2 := ku.mod m2 (fun h => h)
        have bw2 := bwx.trans (b2.mono bwx.size)
        have y2 := kx2.cell 2
        have y3 := kx2.cell 3
        have hkx := kx2.lt
        simp at y2 y3
        have ku3 := ku2.alloc (.cells #[.int .i64 na, .int .i64 nb] 3)
        have c1 := used_no ku3 p0 (by omega) hna
        have hku3 := ku3.lt
        have f1 := ku3.frozen na.toNat
        have ku4 := used_put ku3 p0 (by omega)
        have c2 := used_no ku4 q0 (by omega) hnb
        have kl := (Blk.new w2 #[.int .i64 na, .int .i64 nb] 3).setCell_other (p := ⟨w.heap.size, na.toNat, none⟩) (by show w.heap.size ≠ w2.heap.size; have := ku2.lt; omega) (.bool true)
        have l1 := kl.cell 1
        simp at l1
        clear kl
        have f2 := ku4.frozen nb.toNat
        have ku5 := used_put ku4 q0 (by omega)
        have bw3 := ((bw2.alloc bw2.size (.cells #[.int .i64 na, .int .i64 nb] 3)).setCell (p := ⟨w.heap.size, na.toNat, none⟩) (Nat.le_refl _) (.bool true)).setCell (p := ⟨w.heap.size, nb.toNat, none⟩) (Nat.le_refl _) (.bool true)
        clear kx ku
        go_wp2_with fail
        refine wp_loop_rounds 3 ?_
        rw [rounds_succ]
        go_wp2_with fail
        rw [rounds_succ]
        go_wp2_with fail
        rw [rounds_succ]
        go_wp2_with fail
        go_roundg (len - i)
        case measure => omega
        case rel => exact ⟨i + 1, by omega, by omega, by go_num, by rw [HT.out]; simpa using ku5, bw3⟩
    · have : i = len := by omega
      subst this
      have ht : F.take i = F := List.take_of_length_le (by rw [HN.out]; exact Nat.le_refl _)
      rw [ht] at k1
      have hall := hF.all
      rw [HN.out] at hall
      clear ht k0 hr
      have i0 : (1 : Int) ≤ (i : Int) := by omega
      have i1 : (i : Int) - 1 ≤ (cap : Int) := by omega
      go_wp2_with fail
      go_loop [55, 9] (fun ct u9 => ∃ j : Nat, j + 1 ≤ i ∧ ct = .int .i64 j) (fun ct _ => i - (intOf ct).toNat)
      case atStart => exact ⟨0, by omega, rfl⟩
      case round =>
        obtain ⟨j, hj, rfl⟩ := hrel
        by_cases hlt2 : j + 1 < i
        · have c1 := used_yes k1 (j := j) (by omega) (hall j hlt2)
          have hk1 := k1.lt
          have j0 : (j : Int) < (i : Int) - 1 := by omega
          go_wp2_with fail
          go_round
          case rel => exact ⟨j + 1, by omega, by go_num⟩
          case measure => simp [intOf]; omega
        · have j0 : (i : Int) - 1 ≤ (j : Int) := by omega
          go_wp2_with fail
          go_ret
          exact ⟨rfl, bw⟩
end Go.Proofs.YtpekmohnjpbkgaaGreatDoor

namespace Go.Proofs.YtpekmohnjpbkgaaGreatDoor

/-- f does not hang on the conditions from k on. -/
def FreeFrom (k : Nat) (f : Cfg → Bool) : Prop := ∀ c v x, k ≤ v → f (upd c v x) = f c
theorem FreeFrom.mono {k m : Nat} {f : Cfg → Bool} (h : FreeFrom k f) (hk : k ≤ m) : FreeFrom m f := fun c v x hv => h c v x (by omega)
/-- A valid set over the first k conditions. -/
structure Sm (k : Nat) (d : Dg) : Prop where
  valid : Valid d
  free : FreeFrom k d.den

theorem visit_good {N : List Br} (hN : Ord N) (G : Int → Prop) (hG : ∀ (i : Nat) (b : Br), N[i]? = some b → G ((i : Int) + 2) → (2 ≤ b.low → G b.low) ∧ (2 ≤ b.high → G b.high)) :
    ∀ (f : Nat) (n : Int) (s : VS), VInv N s → 0 ≤ n → n < N.length + 2 → n < f → (2 ≤ n → G n) → (∀ k m, s.memo k = some m → 2 ≤ k → G k) → ∀ k m, (visit N f n s).2.memo k = some m → 2 ≤ k → G k := by
  intro f
  induction f with
  | zero => intro n s _ h0 _ hf; omega
  | succ f ih =>
    intro n s hv h0 h1 hf hn hs
    unfold visit
    cases hm : s.memo n with
    | some m => exact hs
    | none =>
      rcases num_cases h0 h1 with rfl | rfl | ⟨i, b, hb, rfl⟩
      · rw [hv.zero] at hm; cases hm
      · rw [hv.one] at hm; cases hm
      · have ok := hN _ _ hb
        have a1 := ok.l1
        have a2 := ok.h1
        have a3 := ok.l0
        have a4 := ok.h0
        have hi : i < N.length := (List.getElem?_eq_some_iff.1 hb).1
        have hg := hG i b hb (hn (by omega))
        simp only [nodeAt_of hb]
        have p1 := visit_ok hN f b.low s hv a3 (by omega) (by omega)
        have g1 := ih b.low s hv a3 (by omega) (by omega) hg.1 hs
        have g2 := ih b.high _ p1.inv a4 (by omega) (by omega) hg.2 g1
        intro k m hk h2
        simp only [setMemo] at hk
        split at hk
        · rename_i e
          rw [e]
          exact hn (by omega)
        · exact g2 k m hk h2

theorem den_free_below {N : List Br} (hN : Ord N) {n : Int} (h0 : 0 ≤ n) (h1 : n < N.length + 2) (c c' : Cfg) (h : ∀ k : Nat, levelN N n ≤ k → c k = c' k) : den N n c = den N n c' := by
  have hl := level_le hN h0 h1
  have key : ∀ j : Nat, (j : Int) ≤ levelN N n → den N n c = den N n (fun k => if k < j then c' k else c k) := by
    intro j
    induction j with
    | zero => intro _; simp
    | succ j ih =>
      intro hj
      rw [ih (by omega)]
      have e : (fun k => if k < j + 1 then c' k else c k) = upd (fun k => if k < j then c' k else c k) j (c' j) := by
        funext k
        simp only [upd]
        by_cases e : k = j
        · subst e; simp
        · rw [if_neg e]
          by_cases e2 : k < j
          · rw [if_pos e2, if_pos (by omega)]
          · rw [if_neg e2, if_neg (by omega)]
      rw [e, den_free' hN h0 h1 _ _ _ (by omega)]
  rw [key (levelN N n).toNat (by omega)]
  refine congrArg _ (funext fun k => ?_)
  by_cases hk : k < (levelN N n).toNat
  · rw [if_pos hk]
  · rw [if_neg hk, h k (by omega)]

/-- g is f with the conditions below v set as in p. -/
def Cof (f g : Cfg → Bool) (v : Int) (p : Cfg) : Prop := ∀ c, g c = f (fun k : Nat => if (k : Int) < v then p k else c k)

theorem cof_all {d : Dg} (h : Valid d) : ∀ i : Nat, i < d.nodes.length → ∃ p, Cof d.den (den d.nodes ((i : Int) + 2)) (levelN d.nodes ((i : Int) + 2)) p := by
  have hN := h.ord
  have r0 := h.r0
  have r1 := h.r1
  have good := visit_good hN (fun n => 0 ≤ n ∧ n < d.nodes.length + 2 ∧ ∃ p, Cof d.den (den d.nodes n) (levelN d.nodes n) p) ?_ (d.root.toNat + 1) d.root VS.init (VInv.init _) r0 r1 (by omega) ?_ ?_
  · have post := numbered_post hN r0 r1
    have hout : (visit d.nodes (d.root.toNat + 1) d.root VS.init).2.out = d.nodes := congrArg Dg.nodes h.post
    have hp := post.inv
    intro i hi
    obtain ⟨n, hn⟩ := hp.hit i (by rw [hout]; exact hi)
    have hs := hp.sem _ _ hn
    rw [hout] at hs
    have hd := hp.dom _ _ hn
    have e := den_inj' hN h.nodup (by omega) hd.1 (by omega) hd.2 hs
    have := good n _ hn (by omega)
    rw [e]
    exact this.2.2
  · rintro i b hb ⟨_, _, p, hp⟩
    have ok := hN _ _ hb
    have hi : i < d.nodes.length := (List.getElem?_eq_some_iff.1 hb).1
    have e0 := levelN_of hb
    have a1 := ok.l1
    have a2 := ok.h1
    have a3 := ok.l0
    have a4 := ok.h0
    have a5 := ok.v0
    have a6 := ok.lv
    have a7 := ok.hv
    rw [e0] at hp
    constructor
    · intro _
      refine ⟨a3, by omega, fun k : Nat => if (k : Int) < b.var then p k else false, fun c => ?_⟩
      have hd : den d.nodes b.low c = den d.nodes b.low (fun k : Nat => if (k : Int) < levelN d.nodes b.low then false else c k) := den_free_below hN a3 (by omega) _ _ (fun k hk => by rw [if_neg (by omega)])
      rw [hd, den_low hN hb, hp]
      refine congrArg _ (funext fun k => ?_)
      simp only [upd]
      by_cases h1 : (k : Int) < b.var
      · rw [if_pos h1, if_pos (by omega), if_pos h1]
      · rw [if_neg h1]
        by_cases h2 : k = b.var.toNat
        · rw [if_pos h2, if_pos (by omega), if_neg h1]
        · rw [if_neg h2]
          by_cases h3 : (k : Int) < levelN d.nodes b.low
          · rw [if_pos h3, if_pos h3, if_neg h1]
          · rw [if_neg h3, if_neg h3]
    · intro _
      refine ⟨a4, by omega, fun k : Nat => if (k : Int) < b.var then p k else if (k : Int) = b.var then true else false, fun c => ?_⟩
      have hd : den d.nodes b.high c = den d.nodes b.high (fun k : Nat => if (k : Int) < levelN d.nodes b.high then false else c k) := den_free_below hN a4 (by omega) _ _ (fun k hk => by rw [if_neg (by omega)])
      rw [hd, den_high hN hb, hp]
      refine congrArg _ (funext fun k => ?_)
      simp only [upd]
      by_cases h1 : (k : Int) < b.var
      · rw [if_pos h1, if_pos (by omega), if_pos h1]
      · rw [if_neg h1]
        by_cases h2 : k = b.var.toNat
        · rw [if_pos h2, if_pos (by omega), if_neg h1, if_pos (by omega)]
        · rw [if_neg h2]
          by_cases h3 : (k : Int) < levelN d.nodes b.high
          · rw [if_pos h3, if_pos h3, if_neg h1, if_neg (by omega)]
          · rw [if_neg h3, if_neg h3]
  · intro _
    refine ⟨r0, r1, fun _ => false, fun c => ?_⟩
    exact den_free_below hN r0 r1 _ _ (fun k hk => by rw [if_neg (by omega)])
  · intro k m hk h2
    simp only [VS.init] at hk
    rw [if_neg (by omega), if_neg (by omega)] at hk
    cases hk

/-- The number of the first v bits of p. -/
def bits (p : Cfg) : Nat → Nat
  | 0 => 0
  | v + 1 => bits p v + (if p v then 2 ^ v else 0)
theorem bits_lt (p : Cfg) (v : Nat) : bits p v < 2 ^ v := by
  induction v with
  | zero => simp [bits]
  | succ v ih =>
    simp only [bits, Nat.pow_succ]
    split <;> omega
theorem bits_inj (p q : Cfg) (v : Nat) (h : bits p v = bits q v) : ∀ k, k < v → p k = q k := by
  induction v with
  | zero => intro k hk; omega
  | succ v ih =>
    have h1 := bits_lt p v
    have h2 := bits_lt q v
    simp only [bits] at h
    have e : p v = q v := by
      cases hp : p v <;> cases hq : q v <;> simp [hp, hq] at h ⊢ <;> omega
    rw [e] at h
    intro k hk
    rcases Nat.lt_or_ge k v with hkv | hkv
    · exact ih (by omega) k hkv
    · have : k = v := by omega
      rw [this]; exact e

theorem Sm.var_lt {k : Nat} {d : Dg} (h : Sm k d) {i : Nat} {b : Br} (hb : d.nodes[i]? = some b) : b.var < k := by
  have hN := h.valid.ord
  have hi : i < d.nodes.length := (List.getElem?_eq_some_iff.1 hb).1
  obtain ⟨c, hc⟩ := den_hangs hN h.valid.nodup hb
  obtain ⟨p, hp⟩ := cof_all h.valid i hi
  rw [levelN_of hb] at hp
  have ok := hN _ _ hb
  have a5 := ok.v0
  rcases Int.lt_or_le b.var k with hk | hk
  · exact hk
  · exfalso
    refine hc ?_
    have e : ∀ x, (fun j : Nat => if (j : Int) < b.var then p j else (upd c b.var.toNat x) j) = upd (fun j : Nat => if (j : Int) < b.var then p j else c j) b.var.toNat x := by
      intro x
      funext j
      simp only [upd]
      by_cases e1 : j = b.var.toNat
      · rw [if_pos e1, if_pos e1, if_neg (by omega)]
      · rw [if_neg e1, if_neg e1]
    rw [hp, hp, e, e, h.free _ _ _ (by omega), h.free _ _ _ (by omega)]

theorem Sm.len {k : Nat} {d : Dg} (h : Sm k d) : d.nodes.length < 2 ^ k := by
  have hN := h.valid.ord
  have hc : ∀ i : Nat, ∃ p : Cfg, i < d.nodes.length → Cof d.den (den d.nodes ((i : Int) + 2)) (levelN d.nodes ((i : Int) + 2)) p := by
    intro i
    by_cases hi : i < d.nodes.length
    · obtain ⟨p, hp⟩ := cof_all h.valid i hi
      exact ⟨p, fun _ => hp⟩
    · exact ⟨fun _ => false, fun h => absurd h hi⟩
  have hpos : 0 < 2 ^ k := Nat.two_pow_pos k
  have lev : ∀ i, i < d.nodes.length → 0 ≤ levelN d.nodes ((i : Int) + 2) ∧ levelN d.nodes ((i : Int) + 2) < k := by
    intro i hi
    have hb : d.nodes[i]? = some d.nodes[i] := List.getElem?_eq_getElem hi
    rw [levelN_of hb]
    exact ⟨(hN _ _ hb).v0, h.var_lt hb⟩
  have pp : ∀ v : Nat, v < k → 2 ^ v + 2 ^ v ≤ 2 ^ k := by
    intro v hv
    have h1 : 2 ^ (v + 1) ≤ 2 ^ k := Nat.pow_le_pow_right (by omega) hv
    rw [Nat.pow_succ] at h1
    omega
  have key := pigeon (2 ^ k - 1) d.nodes.length (fun i => 2 ^ (levelN d.nodes ((i : Int) + 2)).toNat + bits (Classical.choose (hc i)) (levelN d.nodes ((i : Int) + 2)).toNat - 1) ?_ ?_
  · omega
  · intro i hi
    have h1 := bits_lt (Classical.choose (hc i)) (levelN d.nodes ((i : Int) + 2)).toNat
    have h2 := lev i hi
    have h3 := pp (levelN d.nodes ((i : Int) + 2)).toNat (by omega)
    show 2 ^ _ + _ - 1 < _
    omega
  · intro i j hi hj he
    have c1 := Classical.choose_spec (hc i) hi
    have c2 := Classical.choose_spec (hc j) hj
    have l1 := lev i hi
    have l2 := lev j hj
    revert c1 c2 he
    generalize Classical.choose (hc i) = p
    generalize Classical.choose (hc j) = q
    intro he c1 c2
    have b1 := bits_lt p (levelN d.nodes ((i : Int) + 2)).toNat
    have b2 := bits_lt q (levelN d.nodes ((j : Int) + 2)).toNat
    have s1 := Nat.two_pow_pos (levelN d.nodes ((i : Int) + 2)).toNat
    have s2 := Nat.two_pow_pos (levelN d.nodes ((j : Int) + 2)).toNat
    have ev : (levelN d.nodes ((i : Int) + 2)).toNat = (levelN d.nodes ((j : Int) + 2)).toNat := by
      rcases Nat.lt_trichotomy (levelN d.nodes ((i : Int) + 2)).toNat (levelN d.nodes ((j : Int) + 2)).toNat with hl | hl | hl
      · have := pp' hl; omega
      · exact hl
      · have := pp' hl; omega
    rw [ev] at he
    have hb := bits_inj p q _ (show bits p (levelN d.nodes ((j : Int) + 2)).toNat = bits q (levelN d.nodes ((j : Int) + 2)).toNat by omega)
    have e : den d.nodes ((i : Int) + 2) = den d.nodes ((j : Int) + 2) := by
      funext c
      rw [c1, c2]
      refine congrArg _ (funext fun k => ?_)
      have ev' : levelN d.nodes ((i : Int) + 2) = levelN d.nodes ((j : Int) + 2) := by omega
      rw [ev']
      by_cases hk : (k : Int) < levelN d.nodes ((j : Int) + 2)
      · rw [if_pos hk, if_pos hk, hb k (by omega)]
      · rw [if_neg hk, if_neg hk]
    have := den_inj' hN h.valid.nodup (by omega) (by omega) (by omega) (by omega) e
    omega
 where
  pp' {a b : Nat} (h : a < b) : 2 ^ a + 2 ^ a ≤ 2 ^ b := by
    have h1 : 2 ^ (a + 1) ≤ 2 ^ b := Nat.pow_le_pow_right (by omega) h
    rw [Nat.pow_succ] at h1
    omega

/-! ### The operations on such sets -/

theorem Sm.small {d : Dg} (h : Sm 6 d) : d.nodes.length ≤ 4096 := by
  have := h.len
  simp at this
  omega
theorem chk_of {d : Dg} (h : Sm 6 d) : chk d = 0 := by
  have := h.small
  unfold chk
  rw [if_neg (by omega), if_pos h.valid]

theorem binD_ok {f : Bool → Bool → Bool} {x y : Dg} (hx : Sm 6 x) (hy : Sm 6 y) : (binD f x y).2 = 0 ∧ Sm 6 (binD f x y).1 ∧ ∀ c, (binD f x y).1.den c = f (x.den c) (y.den c) := by
  have hc : chks [x, y] = 0 := by simp [chks, chk_of hx, chk_of hy]
  have k := comb_ok (fun a b _ => f a b) hx.valid hy.valid valid_empty
  have hs : Sm 6 (comb (fun a b _ => f a b) x y ⟨[], 0⟩) := ⟨k.1, fun c v b hv => by rw [k.2, k.2, hx.free c v b hv, hy.free c v b hv]⟩
  have hl := hs.small
  unfold binD
  rw [if_neg (by rw [hc]; decide), if_neg (by omega)]
  exact ⟨rfl, hs, k.2⟩

noncomputable def andD (x y : Dg) : Dg := (binD (fun a b => a && b) x y).1
noncomputable def orD (x y : Dg) : Dg := (binD (fun a b => a || b) x y).1
noncomputable def notD (x : Dg) : Dg := (binD (fun a _ => !a) x ⟨[], 0⟩).1

theorem Sm.const (b : Bool) : Sm 6 (constD b) ∧ ∀ c, (constD b).den c = b := by
  cases b
  · have e : ∀ c, (constD false).den c = false := fun c => by show den [] 0 c = false; rw [den_zero]
    exact ⟨⟨valid_empty, fun c v x _ => by rw [e, e]⟩, e⟩
  · have e : ∀ c, (constD true).den c = true := fun c => by show den [] 1 c = true; rw [den_one]
    exact ⟨⟨⟨Ord.nil, by simp [constD], by simp [constD], by simp [constD], rfl⟩, fun c v x _ => by rw [e, e]⟩, e⟩
theorem Sm.empty : Sm 6 ⟨[], 0⟩ := (Sm.const false).1
theorem Sm.and {x y : Dg} (hx : Sm 6 x) (hy : Sm 6 y) : Sm 6 (andD x y) ∧ (∀ c, (andD x y).den c = (x.den c && y.den c)) ∧ binD (fun a b => a && b) x y = (andD x y, 0) := by
  have k := binD_ok (f := fun a b => a && b) hx hy
  exact ⟨k.2.1, k.2.2, Prod.ext rfl k.1⟩
theorem Sm.or {x y : Dg} (hx : Sm 6 x) (hy : Sm 6 y) : Sm 6 (orD x y) ∧ (∀ c, (orD x y).den c = (x.den c || y.den c)) ∧ binD (fun a b => a || b) x y = (orD x y, 0) := by
  have k := binD_ok (f := fun a b => a || b) hx hy
  exact ⟨k.2.1, k.2.2, Prod.ext rfl k.1⟩
theorem Sm.not {x : Dg} (hx : Sm 6 x) : Sm 6 (notD x) ∧ (∀ c, (notD x).den c = !(x.den c)) ∧ binD (fun a _ => !a) x ⟨[], 0⟩ = (notD x, 0) := by
  have k := binD_ok (f := fun a _ => !a) hx Sm.empty
  exact ⟨k.2.1, k.2.2, Prod.ext rfl k.1⟩
theorem Sm.ext {k j : Nat} {a b : Dg} (ha : Sm k a) (hb : Sm j b) (h : ∀ c, a.den c = b.den c) : a = b := ha.valid.ext hb.valid (funext h)
end Go.Proofs.YtpekmohnjpbkgaaGreatDoor

namespace Go.Proofs.YtpekmohnjpbkgaaGreatDoor
open Go Go.RowKit

/-! ### The set of a formula -/

theorem var_valid {v : Int} (h0 : 0 ≤ v) (h1 : v ≤ 63) : Valid (varD v) := by
  refine ⟨?_, by simp [varD], by simp [varD], by simp [varD], ?_⟩
  · intro i b hb
    cases i with
    | zero =>
      simp [varD] at hb
      subst hb
      exact ⟨h0, h1, by simp, by simp, by simp, by simp, by simp, by simp [levelN]; omega, by simp [levelN]; omega⟩
    | succ i => simp [varD] at hb
  · rfl
theorem Sm.var {v : Int} (h0 : 0 ≤ v) (h1 : v < 6) : Sm 6 (varD v) ∧ (∀ c, (varD v).den c = c v.toNat) ∧ varR v = (varD v, 0) := by
  have e : ∀ c, (varD v).den c = c v.toNat := by
    intro c
    have := den_last [] ⟨v, 0, 1⟩
    simp only [List.nil_append, List.length_nil] at this
    show den [⟨v, 0, 1⟩] 2 c = _
    have h2 : den [(⟨v, 0, 1⟩ : Br)] ((0 + 2 : Nat) : Int) c = if c v.toNat then den [] 1 c else den [] 0 c := congrFun this c
    have h3 : ((0 + 2 : Nat) : Int) = 2 := rfl
    rw [h3] at h2
    rw [h2, den_one, den_zero]
    cases c v.toNat <;> rfl
  refine ⟨⟨var_valid h0 (by omega), fun c k x hk => ?_⟩, e, ?_⟩
  · rw [e, e, upd_other]
    omega
  · unfold varR; rw [if_neg (by omega)]

noncomputable def Tr.dg : Tr → Dg
  | con b => constD b
  | var v => varD v
  | neg t => notD t.dg
  | bin op l r => if op = 4 then andD l.dg r.dg else orD l.dg r.dg
theorem Tr.dg_ok : ∀ t : Tr, t.ok 6 → Sm 6 t.dg ∧ ∀ c, t.dg.den c = t.eval c
  | con b, _ => Sm.const b
  | var v, h => ⟨(Sm.var h.1 h.2).1, (Sm.var h.1 h.2).2.1⟩
  | neg t, h => by
    have k := Tr.dg_ok t h
    have j := k.1.not
    exact ⟨j.1, fun c => by show (notD t.dg).den c = _; rw [j.2.1, k.2]; rfl⟩
  | bin op l r, h => by
    have k1 := Tr.dg_ok l h.2.1
    have k2 := Tr.dg_ok r h.2.2
    rcases h.1 with rfl | rfl
    · have j := k1.1.and k2.1
      refine ⟨j.1, fun c => ?_⟩
      show (andD l.dg r.dg).den c = _
      rw [j.2.1, k1.2, k2.2]
      rfl
    · have j := k1.1.or k2.1
      refine ⟨j.1, fun c => ?_⟩
      show (orD l.dg r.dg).den c = _
      rw [j.2.1, k1.2, k2.2]
      rfl

/-- What a formula in postorder means. -/
def valF (F : List FN) : Cfg → Bool := (semsF F []).getD (F.length - 1) (fun _ => false)
theorem Tr.valF (t : Tr) {n : Nat} (ht : t.ok n) : valF (t.post 0) = t.eval := by
  unfold YtpekmohnjpbkgaaGreatDoor.valF
  rw [t.post_length]
  exact t.sems_last n ht

open Classical in
/-- The set of an expression that Parse takes. -/
noncomputable def setD (L : List (List UInt8)) (s : List UInt8) : Dg :=
  if h : (parseF L s).2 = 0 then (Classical.choose (parseF_tree h)).dg else ⟨[], 0⟩
theorem setD_tree {L : List (List UInt8)} {s : List UInt8} (hL : L.length ≤ 6) (h : (parseF L s).2 = 0) : ∃ t : Tr, t.ok 6 ∧ (parseF L s).1 = t.post 0 ∧ t.size ≤ 512 ∧ setD L s = t.dg := by
  have k := Classical.choose_spec (parseF_tree h)
  refine ⟨Classical.choose (parseF_tree h), Tr.ok_mono hL _ k.1, k.2.1, k.2.2.1, ?_⟩
  unfold setD
  rw [dif_pos h]
theorem setD_ok {L : List (List UInt8)} {s : List UInt8} (hL : L.length ≤ 6) (h : (parseF L s).2 = 0) : Sm 6 (setD L s) ∧ ∀ c, (setD L s).den c = valF (parseF L s).1 c := by
  obtain ⟨t, t1, t2, _, t3⟩ := setD_tree hL h
  have k := t.dg_ok t1
  rw [t3, t2, t.valF t1]
  exact k

/-! ### Lines -/

def lineOf (l : List UInt8) : List UInt8 := l.takeWhile (fun b => b != 10)
def headOf (s : List UInt8) : List UInt8 := s.takeWhile (fun b => b != 32)
def restOf (s : List UInt8) : List UInt8 := s.drop ((headOf s).length + 1)
def spacedOf (s : List UInt8) : Bool := decide ((headOf s).length < s.length)

def sIf : List UInt8 := [35, 105, 102]
def sInclude : List UInt8 := [35, 105, 110, 99, 108, 117, 100, 101]
def sElif : List UInt8 := [35, 101, 108, 105, 102]
def sElse : List UInt8 := [35, 101, 108, 115, 101]
def sEnd : List UInt8 := [35, 101, 110, 100]

/-! ### The reader -/

structure SecD where
  outer : Dg
  rest : Dg
  other : Bool
  line : Int
structure St where
  reading : List (Int × Bool)
  depth : Int
  text : List UInt8
  out : List SegD
  fresh : Bool
  file : Int
  line : Int
structure LS where
  st : St
  opens : List SecD
  k : Dg
  pos : Nat
/-- An error with its place. -/
structure Pl where
  e : Int
  file : Int
  line : Int
  deriving DecidableEq
abbrev Res (α : Type) := Except Pl α

def St.fail {α : Type} (st : St) (e : Int) : Res α := .error ⟨e, st.file, st.line⟩

noncomputable def setF (L : List (List UInt8)) (s : List UInt8) (st : St) : Res Dg :=
  if (parseF L s).2 = 0 then .ok (setD L s) else if (parseF L s).2 = 2 then st.fail 2 else st.fail 71
def deepF (st : St) : Res St := if st.depth = 64 then st.fail 2 else .ok { st with depth := st.depth + 1 }
def numF (M : List (List UInt8 × Int)) (s : List UInt8) (st : St) : Res Int :=
  if s.length < 2 ∨ s.head? ≠ some 34 ∨ s.getLast? ≠ some 34 ∨ s.count 34 ≠ 2 then st.fail 71 else
  match aget M ((s.drop 1).take (s.length - 2)) with
  | none => st.fail 73
  | some n => if (aget st.reading n).getD false = true then st.fail 73 else .ok n
def setLast (l : List SegD) (n : Int) : List SegD := match l.getLast? with | none => [] | some x => l.dropLast ++ [{ x with till := n }]
def addF (s : List UInt8) (pos : Int) (k : Dg) (st : St) : Res St :=
  if 1048576 < st.text.length + s.length ∨ (st.fresh = true ∧ st.out.length = 65536) then st.fail 2 else
  let out := if st.fresh then st.out ++ [⟨st.text.length, 0, st.file, pos, k⟩] else st.out
  .ok { st with out := setLast out (st.text.length + s.length : Nat), fresh := false, text := st.text ++ s }
noncomputable def branchF (L : List (List UInt8)) (x : SecD) (other : Bool) (s : List UInt8) (st : St) : Res (SecD × Dg) :=
  if x.other = true then st.fail 71 else
  if other = true then .ok ({ x with other := true }, x.rest) else
  match setF L s st with
  | .error p => .error p
  | .ok d => .ok ({ x with other := false, rest := andD x.rest (notD d) }, andD x.rest d)

noncomputable def stepF (L : List (List UInt8)) (M : List (List UInt8 × Int)) (rec : Int → Dg → St → Res St) (text : List UInt8) (ls : LS) : Res LS :=
  let s := lineOf (text.drop ls.pos)
  let e := ls.pos + s.length + 1
  let st := { ls.st with line := ls.st.line + 1 }
  if headOf s = sIf ∧ spacedOf s = true then
    match setF L (restOf s) st with
    | .error p => .error p
    | .ok d =>
      match deepF st with
      | .error p => .error p
      | .ok st2 => .ok ⟨{ st2 with fresh := true }, ls.opens ++ [⟨ls.k, andD ls.k (notD d), false, st.line⟩], andD ls.k d, e⟩
  else if headOf s = sInclude ∧ spacedOf s = true then
    match numF M (restOf s) st with
    | .error p => .error p
    | .ok m =>
      match deepF st with
      | .error p => .error p
      | .ok st2 =>
        match rec m ls.k st2 with
        | .error p => .error p
        | .ok st3 => .ok ⟨{ st3 with depth := st3.depth - 1, fresh := true }, ls.opens, ls.k, e⟩
  else if (headOf s = sElif ∧ spacedOf s = true) ∨ s = sElse ∨ s = sEnd then
    match ls.opens.getLast? with
    | none => st.fail 72
    | some x =>
      if s = sEnd then .ok ⟨{ st with depth := st.depth - 1, fresh := true }, ls.opens.dropLast, x.outer, e⟩ else
      match branchF L x (decide (s = sElse)) (restOf s) st with
      | .error p => .error p
      | .ok (x', k') => .ok ⟨{ st with fresh := true }, ls.opens.dropLast ++ [x'], k', e⟩
  else
    match addF ((text.drop ls.pos).take (s.length + 1)) ls.pos ls.k st with
    | .error p => .error p
    | .ok st2 => .ok ⟨st2, ls.opens, ls.k, e⟩

noncomputable def linesF (L : List (List UInt8)) (M : List (List UInt8 × Int)) (rec : Int → Dg → St → Res St) (text : List UInt8) : Nat → LS → Res LS
  | 0, ls => .ok ls
  | g + 1, ls => if ls.pos < text.length then (match stepF L M rec text ls with | .error p => .error p | .ok ls' => linesF L M rec text g ls') else .ok ls

/-- At a file's beginning. -/
abbrev startL (n : Int) (k : Dg) (st : St) : LS := ⟨⟨aset st.reading n true, st.depth, st.text, st.out, true, n, 0⟩, [], k, 0⟩
noncomputable def fileF (L : List (List UInt8)) (M : List (List UInt8 × Int)) (rec : Int → Dg → St → Res St) (text : List UInt8) (n : Int) (k : Dg) (st : St) : Res St :=
  match linesF L M rec text (text.length + 1) (startL n k st) with
  | .error p => .error p
  | .ok ls =>
    match ls.opens.getLast? with
    | some x => .error ⟨72, ls.st.file, x.line⟩
    | none => .ok { ls.st with reading := adel ls.st.reading n, file := st.file, line := st.line, fresh := true }

noncomputable def readF (L : List (List UInt8)) (M : List (List UInt8 × Int)) (T : List (List UInt8)) : Nat → Int → Dg → St → Res St
  | 0, m, _, _ => .error ⟨2, m, 0⟩
  | f + 1, n, k, st => fileF L M (readF L M T f) (T.getD n.toNat []) n k st

theorem readF_succ (L : List (List UInt8)) (M : List (List UInt8 × Int)) (T : List (List UInt8)) (f : Nat) (n : Int) (k : Dg) (st : St) : readF L M T (f + 1) n k st = fileF L M (readF L M T f) (T.getD n.toNat []) n k st := rfl
theorem fileF_def (L : List (List UInt8)) (M : List (List UInt8 × Int)) (rec : Int → Dg → St → Res St) (text : List UInt8) (n : Int) (k : Dg) (st : St) : fileF L M rec text n k st =
  match linesF L M rec text (text.length + 1) (startL n k st) with
  | .error p => .error p
  | .ok ls =>
    match ls.opens.getLast? with
    | some x => .error ⟨72, ls.st.file, x.line⟩
    | none => .ok { ls.st with reading := adel ls.st.reading n, file := st.file, line := st.line, fresh := true } := rfl

/-! ### The files -/

structure Fl where
  name : List UInt8
  text : List UInt8

def byteBad (b : UInt8) : Bool := decide (b.toNat < 32) || (b == 34 || b == 127)
def fileBad (seen : List (List UInt8 × Bool)) (f : Fl) : Bool := decide (f.name = []) || ((aget seen f.name).getD false || ((decide (f.text ≠ []) && decide (f.text.getLast? ≠ some 10)) || f.name.any byteBad))
def filesF : List Fl → Int → List (List UInt8 × Bool) → Pl
  | [], _, _ => ⟨0, 0, 0⟩
  | f :: fs, i, seen => if fileBad seen f = true then ⟨70, i, 0⟩ else if 1048576 < f.text.length then ⟨2, i, 0⟩ else filesF fs (i + 1) (aset seen f.name true)
def filesR (fs : List Fl) : Pl := if 256 < fs.length then ⟨2, -1, 0⟩ else filesF fs 0 []

def st0 : St := ⟨[], 0, [], [], false, 0, 0⟩
noncomputable def readAll (L : List (List UInt8)) (fs : List Fl) (root : List UInt8) : SrcD × Pl :=
  if (parseF L sTrue).2 ≠ 0 then (⟨[], []⟩, ⟨30, -1, 0⟩) else
  if (filesR fs).e ≠ 0 then (⟨[], []⟩, filesR fs) else
  match aget (numG (fs.map Fl.name) 0 []) root with
  | none => (⟨[], []⟩, ⟨73, -1, 0⟩)
  | some n =>
    match readF L (numG (fs.map Fl.name) 0 []) (fs.map Fl.text) 65 n (constD true) st0 with
    | .error p => (⟨[], []⟩, p)
    | .ok st => (⟨st.text, st.out⟩, ⟨0, 0, 0⟩)
end Go.Proofs.YtpekmohnjpbkgaaGreatDoor
