/- What the reader of files keeps: its sets are small, its depth is that of the open sections. The reader of files, in memory; its small methods. The reader of files: set, deeper. The reader of files: split. -/
import Derived.Test.YtpekmohnjpbkgaaGreatDoorGroupI
import Derived.Test.YtpekmohnjpbkgaaGreatDoorGroupF
import Derived.Test.YtpekmohnjpbkgaaGreatDoorGroupJ
namespace Go.Proofs.YtpekmohnjpbkgaaGreatDoor
open Go Go.RowKit

structure StOk (st : St) : Prop where
  sets : ∀ x ∈ st.out, Sm 6 x.d
  text : st.text.length ≤ 1048576
  out : st.out.length ≤ 65536
  d0 : 0 ≤ st.depth
  d1 : st.depth ≤ 64
structure LsOk (d : Int) (ls : LS) : Prop where
  st : StOk ls.st
  opens : ∀ x ∈ ls.opens, Sm 6 x.outer ∧ Sm 6 x.rest
  k : Sm 6 ls.k
  depth : ls.st.depth = d + ls.opens.length
  dn : 0 ≤ d
  fr : ls.st.fresh = false → ls.st.out ≠ []
/-- What reading a file leaves. -/
structure Back (st st' : St) : Prop where
  ok : StOk st'
  depth : st'.depth = st.depth
  file : st'.file = st.file
  line : st'.line = st.line
  fresh : st'.fresh = true
def RecOk (rec : Int → Dg → St → Res St) : Prop := ∀ m k st st', Sm 6 k → StOk st → rec m k st = .ok st' → Back st st'

theorem StOk.at_line {st : St} (h : StOk st) (n : Int) : StOk { st with line := n } := ⟨h.sets, h.text, h.out, h.d0, h.d1⟩
theorem StOk.freshen {st : St} (h : StOk st) : StOk { st with fresh := true } := ⟨h.sets, h.text, h.out, h.d0, h.d1⟩

theorem setF_ok {L : List (List UInt8)} (hL : L.length ≤ 6) {s : List UInt8} {st : St} {d : Dg} (h : setF L s st = .ok d) : (parseF L s).2 = 0 ∧ d = setD L s ∧ Sm 6 d := by
  unfold setF at h
  by_cases h0 : (parseF L s).2 = 0
  · rw [if_pos h0] at h
    cases h
    exact ⟨h0, rfl, (setD_ok hL h0).1⟩
  · rw [if_neg h0] at h
    split at h <;> cases h
theorem deepF_ok {st st' : St} (h : deepF st = .ok st') (ho : StOk st) : st.depth ≠ 64 ∧ st' = { st with depth := st.depth + 1 } ∧ StOk st' := by
  unfold deepF at h
  by_cases h0 : st.depth = 64
  · rw [if_pos h0] at h; cases h
  · rw [if_neg h0] at h
    cases h
    have a := ho.d0
    have b := ho.d1
    exact ⟨h0, rfl, ⟨ho.sets, ho.text, ho.out, by show 0 ≤ st.depth + 1; omega, by show st.depth + 1 ≤ 64; omega⟩⟩
theorem setLast_mem {l : List SegD} {n : Int} {P : Dg → Prop} (h : ∀ x ∈ l, P x.d) : ∀ x ∈ setLast l n, P x.d := by
  intro x hx
  unfold setLast at hx
  cases hl : l.getLast? with
  | none => rw [hl] at hx; simp at hx
  | some y =>
    rw [hl] at hx
    simp only [List.mem_append, List.mem_singleton] at hx
    rcases hx with hx | rfl
    · exact h x (List.dropLast_subset l hx)
    · exact h y (List.mem_of_getLast? hl)
theorem setLast_len (l : List SegD) (n : Int) : (setLast l n).length = l.length := by
  unfold setLast
  cases hl : l.getLast? with
  | none =>
    rw [List.getLast?_eq_none_iff] at hl
    rw [hl]
  | some y =>
    have : l ≠ [] := fun e => by rw [e] at hl; simp at hl
    have : 1 ≤ l.length := by cases l <;> simp_all
    simp
    omega
theorem addF_ok {s : List UInt8} {pos : Int} {k : Dg} {st st' : St} (h : addF s pos k st = .ok st') (ho : StOk st) (hfr : st.fresh = false → st.out ≠ []) (hk : Sm 6 k) (hs : s ≠ []) :
    StOk st' ∧ st'.depth = st.depth ∧ st'.file = st.file ∧ st'.line = st.line ∧ st'.reading = st.reading ∧ st'.text = st.text ++ s ∧ st'.fresh = false ∧ st'.out ≠ [] := by
  unfold addF at h
  by_cases h0 : 1048576 < st.text.length + s.length ∨ (st.fresh = true ∧ st.out.length = 65536)
  · rw [if_pos h0] at h; cases h
  · rw [if_neg h0] at h
    cases h
    have hs1 : ∀ x ∈ (if st.fresh then st.out ++ [⟨st.text.length, 0, st.file, pos, k⟩] else st.out), Sm 6 x.d := by
      intro x hx
      split at hx
      · simp only [List.mem_append, List.mem_singleton] at hx
        rcases hx with hx | rfl
        · exact ho.sets x hx
        · exact hk
      · exact ho.sets x hx
    have hl1 : 1 ≤ (if st.fresh then st.out ++ [(⟨st.text.length, 0, st.file, pos, k⟩ : SegD)] else st.out).length ∧ (if st.fresh then st.out ++ [(⟨st.text.length, 0, st.file, pos, k⟩ : SegD)] else st.out).length ≤ 65536 := by
      have ho1 := ho.out
      split
      · rename_i hf
        have : st.out.length ≠ 65536 := fun e => h0 (.inr ⟨hf, e⟩)
        simp
        omega
      · rename_i hf
        have := hfr (by simpa using hf)
        have : 1 ≤ st.out.length := by cases hq : st.out <;> simp_all
        omega
    refine ⟨⟨setLast_mem hs1, by show (st.text ++ s).length ≤ _; simp; omega, by show (setLast _ _).length ≤ _; rw [setLast_len]; exact hl1.2, ho.d0, ho.d1⟩, rfl, rfl, rfl, rfl, rfl, rfl, fun e => ?_⟩
    have e : (setLast (if st.fresh then st.out ++ [(⟨st.text.length, 0, st.file, pos, k⟩ : SegD)] else st.out) (st.text.length + s.length : Nat)) = [] := e
    have := congrArg List.length e
    rw [setLast_len] at this
    simp only [List.length_nil] at this
    omega
theorem branchF_ok {L : List (List UInt8)} (hL : L.length ≤ 6) {x : SecD} {other : Bool} {s : List UInt8} {st : St} {x' : SecD} {k' : Dg} (h : branchF L x other s st = .ok (x', k')) (h1 : Sm 6 x.outer) (h2 : Sm 6 x.rest) :
    Sm 6 x'.outer ∧ Sm 6 x'.rest ∧ Sm 6 k' := by
  unfold branchF at h
  by_cases h0 : x.other = true
  · rw [if_pos h0] at h; cases h
  rw [if_neg h0] at h
  by_cases h3 : other = true
  · rw [if_pos h3] at h
    cases h
    exact ⟨h1, h2, h2⟩
  rw [if_neg h3] at h
  cases hd : setF L s st with
  | error p => rw [hd] at h; cases h
  | ok d =>
    rw [hd] at h
    cases h
    have hs := (setF_ok hL hd).2.2
    exact ⟨h1, (h2.and hs.not.1).1, (h2.and hs).1⟩

theorem stepF_ok {L : List (List UInt8)} (hL : L.length ≤ 6) {M : List (List UInt8 × Int)} {rec : Int → Dg → St → Res St} (hr : RecOk rec) {text : List UInt8} {d : Int} {ls ls' : LS} (h : stepF L M rec text ls = .ok ls') (ho : LsOk d ls) (hp : ls.pos < text.length) :
    LsOk d ls' ∧ ls'.pos = ls.pos + (lineOf (text.drop ls.pos)).length + 1 ∧ ls'.st.file = ls.st.file ∧ ls'.st.line = ls.st.line + 1 := by
  have hdne : text.drop ls.pos ≠ [] := by simp; omega
  unfold stepF at h
  simp only at h
  have os := ho.st.at_line (ls.st.line + 1)
  have hlast : ∀ x, ls.opens.getLast? = some x → x ∈ ls.opens ∧ 1 ≤ ls.opens.length := by
    intro x hx
    have := List.mem_of_getLast? hx
    exact ⟨this, List.length_pos_of_mem this⟩
  split at h
  · -- #if
    cases hd : setF L (restOf (lineOf (text.drop ls.pos))) { ls.st with line := ls.st.line + 1 } with
    | error p => rw [hd] at h; cases h
    | ok dd =>
      rw [hd] at h
      simp only at h
      have hs := (setF_ok hL hd).2.2
      cases hp2 : deepF { ls.st with line := ls.st.line + 1 } with
      | error p => rw [hp2] at h; cases h
      | ok st2 =>
        rw [hp2] at h
        cases h
        obtain ⟨_, rfl, o2⟩ := deepF_ok hp2 os
        have hdp := ho.depth
        refine ⟨⟨o2.freshen, ?_, (ho.k.and hs).1, ?_, ho.dn, fun e => by cases e⟩, rfl, rfl, rfl⟩
        · intro x hx
          simp only [List.mem_append, List.mem_singleton] at hx
          rcases hx with hx | rfl
          · exact ho.opens x hx
          · exact ⟨ho.k, (ho.k.and hs.not.1).1⟩
        · show ls.st.depth + 1 = d + (ls.opens ++ [_]).length
          simp
          omega
  · split at h
    · -- #include
      cases hn : numF M (restOf (lineOf (text.drop ls.pos))) { ls.st with line := ls.st.line + 1 } with
      | error p => rw [hn] at h; cases h
      | ok m =>
        rw [hn] at h
        simp only at h
        cases hp2 : deepF { ls.st with line := ls.st.line + 1 } with
        | error p => rw [hp2] at h; cases h
        | ok st2 =>
          rw [hp2] at h
          simp only at h
          obtain ⟨_, rfl, o2⟩ := deepF_ok hp2 os
          cases hq : rec m ls.k { ls.st with line := ls.st.line + 1, depth := ls.st.depth + 1 } with
          | error p => rw [hq] at h; cases h
          | ok st3 =>
            rw [hq] at h
            cases h
            have b := hr _ _ _ _ ho.k o2 hq
            have hdp := ho.depth
            have e := b.depth
            have d0 := ho.st.d0
            have d1 := ho.st.d1
            simp only at e
            refine ⟨⟨⟨b.ok.sets, b.ok.text, b.ok.out, by show 0 ≤ st3.depth - 1; omega, by show st3.depth - 1 ≤ 64; omega⟩, ho.opens, ho.k, by show st3.depth - 1 = d + (ls.opens.length : Int); omega, ho.dn, fun e => by cases e⟩, rfl, ?_, ?_⟩
            · exact b.file
            · exact b.line
    · split at h
      · cases hx : ls.opens.getLast? with
        | none => rw [hx] at h; cases h
        | some x =>
          rw [hx] at h
          simp only at h
          obtain ⟨hm, hlen⟩ := hlast x hx
          have hox := ho.opens x hm
          have hdp := ho.depth
          have d0 := ho.st.d0
          have d1 := ho.st.d1
          split at h
          · -- #end
            cases h
            have hdd : d + (ls.opens.length : Int) - 1 = d + ((ls.opens.dropLast.length : Nat) : Int) := by
              simp; omega
            refine ⟨⟨⟨os.sets, os.text, os.out, ?_, by show ls.st.depth - 1 ≤ 64; omega⟩, fun y hy => ho.opens y (List.dropLast_subset _ hy), hox.1, by show ls.st.depth - 1 = d + ((ls.opens.dropLast.length : Nat) : Int); omega, ho.dn, fun e => by cases e⟩, rfl, rfl, rfl⟩
            have := ho.dn
            show 0 ≤ ls.st.depth - 1
            omega
          · cases hb : branchF L x (decide (lineOf (text.drop ls.pos) = sElse)) (restOf (lineOf (text.drop ls.pos))) { ls.st with line := ls.st.line + 1 } with
            | error p => rw [hb] at h; cases h
            | ok p =>
              obtain ⟨x', k'⟩ := p
              rw [hb] at h
              cases h
              have hbo := branchF_ok hL hb hox.1 hox.2
              refine ⟨⟨os.freshen, ?_, hbo.2.2, ?_, ho.dn, fun e => by cases e⟩, rfl, rfl, rfl⟩
              · intro y hy
                simp only [List.mem_append, List.mem_singleton] at hy
                rcases hy with hy | rfl
                · exact ho.opens y (List.dropLast_subset _ hy)
                · exact ⟨hbo.1, hbo.2.1⟩
              · show ls.st.depth = d + (ls.opens.dropLast ++ [_]).length
                simp
                omega
      · cases ha : addF ((text.drop ls.pos).take ((lineOf (text.drop ls.pos)).length + 1)) ls.pos ls.k { ls.st with line := ls.st.line + 1 } with
        | error p => rw [ha] at h; cases h
        | ok st2 =>
          rw [ha] at h
          cases h
          have hne : (text.drop ls.pos).take ((lineOf (text.drop ls.pos)).length + 1) ≠ [] := by
            cases hq : text.drop ls.pos with
            | nil => exact absurd hq hdne
            | cons y l => simp
          obtain ⟨a1, a2, a3, a4, -, -, -, a5⟩ := addF_ok ha os ho.fr ho.k hne
          exact ⟨⟨a1, ho.opens, ho.k, by show st2.depth = _; rw [a2]; exact ho.depth, ho.dn, fun _ => a5⟩, rfl, a3, a4⟩

theorem linesF_ok {L : List (List UInt8)} (hL : L.length ≤ 6) {M : List (List UInt8 × Int)} {rec : Int → Dg → St → Res St} (hr : RecOk rec) {text : List UInt8} {d : Int} : ∀ (g : Nat) (ls ls' : LS), linesF L M rec text g ls = .ok ls' → LsOk d ls → LsOk d ls' ∧ ls'.st.file = ls.st.file := by
  intro g
  induction g with
  | zero => intro ls ls' h ho; cases h; exact ⟨ho, rfl⟩
  | succ g ih =>
    intro ls ls' h ho
    simp only [linesF] at h
    by_cases hp : ls.pos < text.length
    · rw [if_pos hp] at h
      cases hs : stepF L M rec text ls with
      | error p => rw [hs] at h; cases h
      | ok ls1 =>
        rw [hs] at h
        have k := stepF_ok hL hr hs ho hp
        have j := ih _ _ h k.1
        exact ⟨j.1, j.2.trans k.2.2.1⟩
    · rw [if_neg hp] at h
      cases h
      exact ⟨ho, rfl⟩
theorem fileF_ok {L : List (List UInt8)} (hL : L.length ≤ 6) {M : List (List UInt8 × Int)} {rec : Int → Dg → St → Res St} (hr : RecOk rec) {text : List UInt8} : RecOk (fun n k st => fileF L M rec text n k st) := by
  intro n k st st' hk ho h
  have h : fileF L M rec text n k st = .ok st' := h
  unfold fileF at h
  cases hl : linesF L M rec text (text.length + 1) (startL n k st) with
  | error p => rw [hl] at h; cases h
  | ok ls =>
    rw [hl] at h
    simp only at h
    have j := linesF_ok hL hr (d := st.depth) _ _ _ hl ⟨⟨ho.sets, ho.text, ho.out, ho.d0, ho.d1⟩, (fun x hx => by cases hx), hk, by simp, ho.d0, fun e => by cases e⟩
    cases hx : ls.opens.getLast? with
    | some x => rw [hx] at h; cases h
    | none =>
      rw [hx] at h
      cases h
      have e := List.getLast?_eq_none_iff.1 hx
      have hd := j.1.depth
      rw [e] at hd
      have o := j.1.st
      exact ⟨⟨o.sets, o.text, o.out, o.d0, o.d1⟩, by show ls.st.depth = _; rw [hd]; simp, rfl, rfl, rfl⟩
theorem readF_ok {L : List (List UInt8)} (hL : L.length ≤ 6) (M : List (List UInt8 × Int)) (T : List (List UInt8)) : ∀ f, RecOk (readF L M T f) := by
  intro f
  induction f with
  | zero => intro m k st st' _ _ h; cases h
  | succ f ih =>
    intro m k st st' hk ho h
    exact fileF_ok hL ih m k st st' hk ho h
end Go.Proofs.YtpekmohnjpbkgaaGreatDoor

namespace Go.Proofs.YtpekmohnjpbkgaaGreatDoor
open Go Go.RowKit
set_option maxHeartbeats 1000000
set_option maxRecDepth 100000
attribute [local go_sem ↓] Go.wp_at_zero Go.wp_at_succ

/-- The panic of an error with its place. -/
def plCh (p : Pl) : List PanicEntry := [{ v := .iface 126 (.agg #[.int .i64 p.e, .int .i64 p.file, .int .i64 p.line]), recovered := false }]

theorem fail_any (rb : Nat) (c : Array Value) (e file line : Int) (w : World) (h : Blk w rb c 124) (h9 : c[9]? = some (.int .i64 file)) (h10 : c[10]? = some (.int .i64 line)) :
    Calls Tryz.prog 140 #[.pointer (some ⟨rb, 0, none⟩), .int .i64 e] w fun r w' => r = .panicked (plCh ⟨e, file, line⟩) ∧ Mod (fun _ => False) w w' := by
  have c9 : w.cell? ⟨rb, 9, none⟩ = some (.int .i64 file) := by rw [h.cell]; exact h9
  have c10 : w.cell? ⟨rb, 10, none⟩ = some (.int .i64 line) := by rw [h.cell]; exact h10
  have hlt := h.lt
  clear h h9 h10
  go_enter Tryz.func140, Tryz.ntmps140
  go_wp2_with fail
  go_still_tail 12, (by kernel_rfl)
  go_wp2_with fail
  exact ⟨rfl, rfl, (Mod.refl _ _).drew⟩

theorem want_ok (rb : Nat) (x : DA) (w : World) : Calls Tryz.prog 197 #[.pointer (some ⟨rb, 0, none⟩), x.val, .int .i64 0] w fun e w' => e = .returned x.val ∧ Below w.heap.size w w' := by
  obtain ⟨⟨d, r⟩, a, cap⟩ := x
  simp only [DA.val]
  go_enter Tryz.func197, Tryz.ntmps197
  go_wp2_with fail
  refine bodyPost_ret (v := .agg #[.slice a d.length cap, .int .i64 r]) (by simp [results, Tryz.results197, go_sem]) rfl ⟨rfl, ?_⟩
  exact Mod.below (S := fun k => w.heap.size ≤ k) (((Mod.refl (fun k => w.heap.size ≤ k) w).alloc _).alloc _) (Nat.le_refl _) (fun k hk h => by omega)

/-! ### The reader in memory -/

def Fl.cells (f : Fl) : List Value := [str f.name, str f.text]

/-- What the reader is given. -/
structure RC where
  base : Nat
  rb : Nat
  nm : Nat
  bm : Nat
  na : Option Addr
  nc : Nat
  fa : Option Addr
  fc : Nat
  L : List (List UInt8)
  fs : List Fl
  /-- blocks of others, which the reader leaves alone -/
  X : Nat → Prop
def RC.M (C : RC) : List (List UInt8 × Int) := numG (C.fs.map Fl.name) 0 []
structure RCok (C : RC) : Prop where
  names : C.L.length ≤ 6
  nlen : ∀ s ∈ C.L, s.length ≤ 1099511627776
  files : C.fs.length ≤ 256
  texts : ∀ f ∈ C.fs, f.text.length ≤ 1048576 ∧ (f.text ≠ [] → f.text.getLast? = some 10)
  nlen2 : ∀ f ∈ C.fs, f.name.length ≤ 1099511627776

/-- What may turn in its memory. -/
structure RV where
  bp : Value
  bv : Value
  ov : Value
  V : List SegV

def RC.cells (C : RC) (m : RV) (st : St) : Array Value :=
  #[.slice C.na C.L.length C.nc, .slice C.fa C.fs.length C.fc, .map (some C.nm), .map (some C.bm), .int .i64 st.depth, m.bp, m.bv, m.ov, .bool st.fresh, .int .i64 st.file, .int .i64 st.line]
/-- The blocks that the reader writes. -/
def RSet (C : RC) (m : RV) (k : Nat) : Prop := k = C.rb ∨ k = C.bm ∨ m.bv.ownBlock = some k ∨ m.ov.ownBlock = some k

/-- .. and those that what it reads lies outside of. -/
def ASet (C : RC) (m : RV) (k : Nat) : Prop := RSet C m k ∨ C.X k

/-- Cells that are read, in blocks outside S. -/
structure InR (S : Nat → Prop) (w : World) (a : Option Addr) (cs : List Value) : Prop where
  rd : Rd w a cs
  out : cs ≠ [] → ∀ b o, a = some ⟨b, o, none⟩ → ¬ S b

structure RM (C : RC) (m : RV) (st : St) (w : World) : Prop where
  blk : Blk w C.rb (C.cells m st) 124
  bp : IsBp C.rb 5 m.bp
  buf : Own 5 1 byteCell C.base w m.bv st.text
  nil : st.text = [] → m.bv = .slice none 0 0
  out : Own 45 6 SegV.cells C.base w m.ov m.V
  segs : m.V.map SegV.d = st.out
  sets : ∀ x ∈ m.V, InR (ASet C m) w x.da.a (brCells x.da.d.nodes)
  reading : MapAt (Value.int .i64) Value.bool w C.bm st.reading
  ok : StOk st
  names : InR (ASet C m) w C.na (C.L.map str)
  files : InR (ASet C m) w C.fa (rowCells Fl.cells C.fs)
  nums : MapAt str (Value.int .i64) w C.nm C.M
  numsOut : ¬ RSet C m C.nm
  hb : C.base ≤ C.rb
  hbm : C.base ≤ C.bm
  xlt : ∀ k, C.X k → k < w.heap.size
  xout : ∀ k, RSet C m k → ¬ C.X k
  numsX : ¬ C.X C.nm

structure Stp (C : RC) (m : RV) (w : World) (m' : RV) (w' : World) : Prop where
  mod : Mod (RSet C m) w w'
  new : ∀ k, RSet C m' k → RSet C m k ∨ w.heap.size ≤ k
theorem Stp.refl (C : RC) (m : RV) (w : World) : Stp C m w m w := ⟨Mod.refl _ _, fun _ h => .inl h⟩
theorem Stp.trans {C : RC} {m1 m2 m3 : RV} {w1 w2 w3 : World} (h : Stp C m1 w1 m2 w2) (k : Stp C m2 w2 m3 w3) : Stp C m1 w1 m3 w3 := by
  have hs := h.mod.size
  refine ⟨h.mod.trans' k.mod (fun _ _ h => h) (fun i hi e => ?_), fun i e => ?_⟩
  · rcases h.new i e with e | e
    · exact e
    · omega
  · rcases k.new i e with e | e
    · exact h.new i e
    · exact .inr (by omega)
theorem Stp.of_below {C : RC} {m : RV} {w w' : World} (hb : Below w.heap.size w w') : Stp C m w m w' := ⟨Mod.of_below hb, fun _ h => .inl h⟩

theorem InR.step {C : RC} {m m' : RV} {w w' : World} {a : Option Addr} {cs : List Value} (h : InR (ASet C m) w a cs) (hs : Stp C m w m' w') : InR (ASet C m') w' a cs := by
  by_cases hc : cs = []
  · subst hc
    exact ⟨Rd.nil _ _, fun h => absurd rfl h⟩
  · have h1 : ∀ b o, a = some ⟨b, o, none⟩ → b < w.heap.size := by
      rintro b o rfl
      cases cs with
      | nil => exact absurd rfl hc
      | cons u cs =>
        obtain ⟨b', o', e, hlt, _⟩ := h.rd 0 u rfl
        cases e
        exact hlt
    refine ⟨h.rd.mod hs.mod (fun b o e _ hk => h.out hc b o e (.inl hk)), fun _ b o e hk => ?_⟩
    rcases hk with hk | hk
    · rcases hs.new b hk with k | k
      · exact h.out hc b o e (.inl k)
      · have := h1 b o e
        omega
    · exact h.out hc b o e (.inr hk)

section
variable {C : RC} {m : RV} {st : St} {w : World}
theorem RM.lt (h : RM C m st w) {k : Nat} (hk : RSet C m k) : k < w.heap.size := by
  rcases hk with rfl | rfl | e | e
  · exact h.blk.lt
  · exact h.reading.lt
  · exact (h.buf.lt e).2
  · exact (h.out.lt e).2
theorem RM.ge (h : RM C m st w) {k : Nat} (hk : RSet C m k) : C.base ≤ k := by
  rcases hk with rfl | rfl | e | e
  · exact h.hb
  · exact h.hbm
  · exact (h.buf.lt e).1
  · exact (h.out.lt e).1
/-- A set that a call has just made lies outside. -/
theorem RM.fresh_in (h : RM C m st w) {w' : World} {a : Option Addr} {cs : List Value} (hr : Rd w' a cs) (ha : ∀ b o, a = some ⟨b, o, none⟩ → w.heap.size ≤ b) : InR (ASet C m) w' a cs :=
  ⟨hr, fun _ b o e hk => by
    have := ha b o e
    rcases hk with hk | hk
    · have := h.lt hk; omega
    · have := h.xlt _ hk; omega⟩
theorem RM.below (h : RM C m st w) {w' : World} (hb : Below w.heap.size w w') : RM C m st w' := by
  have hm : Mod (fun _ => False) w w' := Mod.of_below hb
  have hs : Stp C m w m w' := Stp.of_below hb
  exact ⟨h.blk.mod hm (fun h => h), h.bp, h.buf.mod hm (fun _ _ h => h), h.nil, h.out.mod hm (fun _ _ h => h), h.segs, fun x hx => (h.sets x hx).step hs, h.reading.mod hm (fun h => h), h.ok, h.names.step hs, h.files.step hs, h.nums.mod hm (fun h => h), h.numsOut, h.hb, h.hbm, fun k hk => Nat.lt_of_lt_of_le (h.xlt k hk) hb.size, h.xout, h.numsX⟩
/-- A cell of the reader itself is written. -/
theorem RM.poke (h : RM C m st w) (i : Nat) (v : Value) (st' : St) (hc : (C.cells m st).setIfInBounds i v = C.cells m st') (ht : st'.text = st.text) (ho : st'.out = st.out) (hr : st'.reading = st.reading) (hok : StOk st') :
    RM C m st' (w.setCell ⟨C.rb, i, none⟩ v) ∧ Stp C m w m (w.setCell ⟨C.rb, i, none⟩ v) := by
  have hm : Mod (fun k => k = C.rb) w (w.setCell ⟨C.rb, i, none⟩ v) := Mod.write w ⟨C.rb, i, none⟩ v
  have hs : Stp C m w m (w.setCell ⟨C.rb, i, none⟩ v) := ⟨hm.mono (fun _ _ e => .inl e), fun _ h => .inl h⟩
  refine ⟨⟨?_, h.bp, ?_, ?_, h.out.mod hm (fun g e => h.out.ne_blk e h.blk (by decide)), ?_, fun x hx => (h.sets x hx).step hs, ?_, hok, h.names.step hs, h.files.step hs, h.nums.mod hm (fun e => h.numsOut (.inl e)), h.numsOut, h.hb, h.hbm, fun k hk => Nat.lt_of_lt_of_le (h.xlt k hk) hm.size, h.xout, h.numsX⟩, hs⟩
  · rw [← hc]; exact h.blk.setCell i v
  · rw [ht]; exact h.buf.mod hm (fun g e => h.buf.ne_blk e h.blk (by decide))
  · rw [ht]; exact h.nil
  · rw [ho]; exact h.segs
  · rw [hr]; exact h.reading.mod hm (fun e => h.reading.ne_blk h.blk e)
end
end Go.Proofs.YtpekmohnjpbkgaaGreatDoor

namespace Go.Proofs.YtpekmohnjpbkgaaGreatDoor
open Go Go.RowKit
set_option maxHeartbeats 1000000
set_option maxRecDepth 100000
attribute [local go_sem ↓] Go.wp_at_zero Go.wp_at_succ

theorem RC.cell9 (C : RC) (m : RV) (st : St) : (C.cells m st)[9]? = some (.int .i64 st.file) := rfl
theorem RC.cell10 (C : RC) (m : RV) (st : St) : (C.cells m st)[10]? = some (.int .i64 st.line) := rfl
theorem RM.fails {C : RC} {m : RV} {st : St} {w : World} (h : RM C m st w) (e : Int) :
    Calls Tryz.prog 140 #[.pointer (some ⟨C.rb, 0, none⟩), .int .i64 e] w fun r w' => r = .panicked (plCh ⟨e, st.file, st.line⟩) ∧ Mod (fun _ => False) w w' :=
  fail_any C.rb _ e st.file st.line w h.blk rfl rfl

/-- A set that a call has made, or the panic of an error. -/
def SetPost (w : World) (r : Res Dg) (e : Ending) (w' : World) : Prop :=
  match r with
  | .ok d => DgPost w d e w'
  | .error p => e = .panicked (plCh p) ∧ Below w.heap.size w w'

theorem set_any (C : RC) (hC : RCok C) (m : RV) (st : St) (s : List UInt8) (hs : s.length ≤ 1099511627775) (w : World) (h : RM C m st w) :
    Calls Tryz.prog 136 #[.pointer (some ⟨C.rb, 0, none⟩), str s] w (SetPost w (setF C.L s st)) := by
  have h1 := h.below ((Below.refl _ _).alloc (Nat.le_refl _) (.cells #[.slice none 0 0, .int .i64 0] 42))
  have b0 : Below w.heap.size w (w.alloc (.cells #[.slice none 0 0, .int .i64 0] 42)) := (Below.refl _ _).alloc (Nat.le_refl _) _
  have k0 := Blk.new w #[.slice none 0 0, .int .i64 0] 42
  have ps := parse_any C.L hC.nlen (Nat.le_trans hC.names (by omega)) C.na C.nc s hs _ h1.names.rd
  have c0 := h1.blk.cell 0
  have hlt := h1.blk.lt
  simp [RC.cells] at c0
  have hsF : setF C.L s st = if (parseF C.L s).2 = 0 then .ok (setD C.L s) else if (parseF C.L s).2 = 2 then st.fail 2 else st.fail 71 := rfl
  by_cases hq : (parseF C.L s).2 = 0
  · rw [if_pos hq] at hsF
    obtain ⟨t, t1, t2, t3, t4⟩ := setD_tree hC.names hq
    rw [hq, t2] at ps
    rw [t4] at hsF
    rw [hsF]
    have hl := t.post_length 0
    go_enter Tryz.func136, Tryz.ntmps136
    go_wp2_with fail
    refine ps.mono ?_
    clear ps
    rintro e w1 ⟨a, cap, rfl, hcap, hr, ha, b1⟩
    have fd := fun w' hr' => fdiagram_any t t1 t3 a cap (by rw [← hl]; exact hcap) w' hr'
    rw [hl] at hcap ⊢
    have FD := fd w1 hr
    go_wp2_with fail
    refine FD.mono ?_
    clear FD fd
    rintro e w2 ⟨a2, cap2, rfl, hr2, ha2, b2⟩
    have wk := want_ok C.rb ⟨t.dg, a2, cap2⟩ w2
    simp only [DA.val] at wk
    go_wp2_with fail
    refine wk.mono ?_
    rintro e w3 ⟨rfl, b3⟩
    have bw : Below w.heap.size w w3 := b0.trans ((b1.trans ((b2.mono b1.size).trans (b3.mono (Nat.le_trans b1.size b2.size)))).mono (by simp))
    have k3 := ((k0.mod (Mod.of_below (S := fun _ => False) b1) (fun h => h)).mod (Mod.of_below (S := fun _ => False) b2) (fun h => h)).mod (Mod.of_below (S := fun _ => False) b3) (fun h => h)
    have f0 := k3.frozen 0
    have f1 := k3.frozen 1
    have z0 := k3.cell 0
    have z1 := k3.cell 1
    have hk3 := k3.lt
    simp at z0 z1
    have hf1 : ∀ b o, a2 = some ⟨b, o, none⟩ → w.heap.size < b := fun b o e => by have := ha2 b o e; have := b1.size; simp at this; omega
    have hr3 := hr2.below b3
    clear b1 b2 b3 b0 k0 wk hr hr2 h1 c0 hlt ha ha2
    go_wp2_with fail
    have z := (k3.setCell 0 (.slice a2 t.dg.nodes.length cap2)).setCell 1 (.int .i64 t.dg.root)
    have y0 := z.cell 0
    have y1 := z.cell 1
    simp at y0 y1
    exact bodyPost_ret (v := .agg #[.slice a2 t.dg.nodes.length cap2, .int .i64 t.dg.root]) (by simp [results, Tryz.results136, go_sem, y0, y1]) rfl ⟨a2, cap2, rfl, rd_two_stores hr3 (fun b o e => by have := hf1 b o e; omega) _ _, fun b o e => by have := hf1 b o e; omega, below_two bw (Nat.le_refl _) _ _⟩
  · rw [if_neg hq] at hsF
    generalize (parseF C.L s).1 = F0 at *
    generalize (parseF C.L s).2 = code at *
    have hq0 : (code == 0) = false := by rw [beq_eq_false_iff_ne]; exact hq
    by_cases h2 : code = 2
    · rw [if_pos h2] at hsF
      subst h2
      rw [hsF]
      clear hq
      go_enter Tryz.func136, Tryz.ntmps136
      go_wp2_with fail
      refine ps.mono ?_
      clear ps
      rintro e w1 ⟨a, cap, rfl, hcap, hr, ha, b1⟩
      have fl := (h1.below b1).fails 2
      go_wp2_with fail
      refine fl.mono ?_
      rintro e w2 ⟨rfl, m2⟩
      refine ⟨rfl, rfl, ?_⟩
      exact b0.trans ((b1.trans (m2.below b1.size (fun k _ h => h))).mono (by simp))
    · rw [if_neg h2] at hsF
      have hq2 : (code == 2) = false := by rw [beq_eq_false_iff_ne]; exact h2
      rw [hsF]
      clear hq h2
      go_enter Tryz.func136, Tryz.ntmps136
      go_wp2_with fail
      refine ps.mono ?_
      clear ps
      rintro e w1 ⟨a, cap, rfl, hcap, hr, ha, b1⟩
      have fl := (h1.below b1).fails 71
      go_wp2_with fail
      refine fl.mono ?_
      rintro e w2 ⟨rfl, m2⟩
      refine ⟨rfl, rfl, ?_⟩
      exact b0.trans ((b1.trans (m2.below b1.size (fun k _ h => h))).mono (by simp))

/-- The reader behind a step, or the panic of an error. -/
def StPost (C : RC) (m : RV) (w : World) (r : Res St) (e : Ending) (w' : World) : Prop :=
  match r with
  | .ok st => e = .returned (.tuple #[]) ∧ ∃ m', RM C m' st w' ∧ Stp C m w m' w'
  | .error p => e = .panicked (plCh p) ∧ Mod (RSet C m) w w'

theorem deeper_any (C : RC) (m : RV) (st : St) (w : World) (h : RM C m st w) :
    Calls Tryz.prog 137 #[.pointer (some ⟨C.rb, 0, none⟩)] w (StPost C m w (deepF st)) := by
  have c4 := h.blk.cell 4
  have f4 := h.blk.frozen 4
  have hlt := h.blk.lt
  simp [RC.cells] at c4
  have d0 := h.ok.d0
  have d1 := h.ok.d1
  by_cases hd : st.depth = 64
  · have hr : deepF st = st.fail 2 := by unfold deepF; rw [if_pos hd]
    rw [hr]
    have fl := h.fails 2
    rw [hd] at c4
    clear hr d0 d1
    go_enter Tryz.func137, Tryz.ntmps137
    go_wp2_with fail
    refine fl.mono ?_
    rintro e w2 ⟨rfl, m2⟩
    exact ⟨rfl, rfl, m2.mono (fun _ _ h => h.elim)⟩
  · have hr : deepF st = .ok { st with depth := st.depth + 1 } := by unfold deepF; rw [if_neg hd]
    rw [hr]
    have hd' : (st.depth == 64) = false := by rw [beq_eq_false_iff_ne]; exact hd
    have pk := h.poke 4 (.int .i64 (st.depth + 1)) { st with depth := st.depth + 1 } rfl rfl rfl rfl (deepF_ok hr h.ok).2.2
    clear hr hd
    generalize st.depth = dp at *
    go_enter Tryz.func137, Tryz.ntmps137
    go_wp2_with fail
    go_end0
    exact ⟨rfl, m, pk.1, pk.2⟩
end Go.Proofs.YtpekmohnjpbkgaaGreatDoor

namespace Go.Proofs.YtpekmohnjpbkgaaGreatDoor
open Go Go.RowKit
set_option maxHeartbeats 4000000
set_option maxRecDepth 100000
attribute [local go_sem ↓] Go.wp_at_zero Go.wp_at_succ

/-- Two sets that a call has made. -/
def TwoPost (w : World) (x y : Dg) (e : Ending) (w' : World) : Prop :=
  ∃ a ca b cb, e = .returned (.tuple #[.agg #[.slice a x.nodes.length ca, .int .i64 x.root], .agg #[.slice b y.nodes.length cb, .int .i64 y.root]]) ∧ Rd w' a (brCells x.nodes) ∧ Rd w' b (brCells y.nodes) ∧
    (∀ b' o, a = some ⟨b', o, none⟩ → w.heap.size ≤ b') ∧ (∀ b' o, b = some ⟨b', o, none⟩ → w.heap.size ≤ b') ∧ Below w.heap.size w w'

theorem split_any (rb : Nat) (k d : DA) (hk : Sm 6 k.d) (hd : Sm 6 d.d) (w : World) (rk : k.ok w) (rd : d.ok w) :
    Calls Tryz.prog 138 #[.pointer (some ⟨rb, 0, none⟩), k.val, d.val] w (TwoPost w (andD k.d d.d) (andD k.d (notD d.d))) := by
  have g := allocs_get [.cells k.cells.toArray 42, .cells d.cells.toArray 42, .cells #[.slice none 0 0, .int .i64 0] 42, .cells #[.slice none 0 0, .int .i64 0] 42] w
  have hb := allocs_below [.cells k.cells.toArray 42, .cells d.cells.toArray 42, .cells #[.slice none 0 0, .int .i64 0] 42, .cells #[.slice none 0 0, .int .i64 0] 42] w
  have k4 : Blk _ w.heap.size k.cells.toArray 42 := g 0 _ rfl
  have k5 : Blk _ (w.heap.size + 1) d.cells.toArray 42 := g 1 _ rfl
  have k6 : Blk _ (w.heap.size + 1 + 1) #[.slice none 0 0, .int .i64 0] 42 := g 2 _ rfl
  have k7 : Blk _ (w.heap.size + 1 + 1 + 1) #[.slice none 0 0, .int .i64 0] 42 := g 3 _ rfl
  have hsz := allocs_size [.cells k.cells.toArray 42, .cells d.cells.toArray 42, .cells #[.slice none 0 0, .int .i64 0] 42, .cells #[.slice none 0 0, .int .i64 0] 42] w
  have ca := and_any k d _ (rk.below hb) (rd.below hb)
  have cn := fun W hW => not_any d W (rd.below hW)
  have cq := fun (W : World) (y : DA) hW (hy : y.ok W) => and_any k y W (rk.below hW) hy
  rw [(hk.and hd).2.2] at ca
  rw [hd.not.2.2] at cn
  have hkn := (hk.and hd.not.1).2.2
  obtain ⟨⟨kn, kr⟩, ka, kc⟩ := k
  obtain ⟨⟨dn, dr⟩, da, dc⟩ := d
  simp only [DA.val, DA.cells] at *
  generalize hos : ([.cells _ 42, .cells _ 42, .cells _ 42, .cells _ 42] : List Obj).foldl World.alloc w = W4 at *
  simp only [List.foldl_cons, List.foldl_nil, List.length_cons, List.length_nil] at hos hsz
  have HO := Lib.hid hos
  clear hos g
  generalize andD ⟨kn, kr⟩ ⟨dn, dr⟩ = r1 at *
  go_enter Tryz.func138, Tryz.ntmps138
  go_wp2_with fail
  rw [HO.out]
  clear HO
  refine ca.mono ?_
  clear ca
  rintro e w5 ⟨a1, c1, rfl, p1, f1, b5⟩
  have wk := want_ok rb ⟨r1, a1, c1⟩ w5
  simp only [DA.val] at wk
  go_wp2_with fail
  refine wk.mono ?_
  clear wk
  rintro e w6 ⟨rfl, b6⟩
  have b46 : Below W4.heap.size W4 w6 := b5.trans (b6.mono b5.size)
  have m6 := Mod.of_below (S := fun _ => False) b46
  have q4 := k4.mod m6 (fun h => h)
  have q5 := k5.mod m6 (fun h => h)
  have q6 := k6.mod m6 (fun h => h)
  have q7 := k7.mod m6 (fun h => h)
  have p1' := p1.below b6
  have z0 := q6.cell 0
  have z1 := q6.cell 1
  have f0 := q6.frozen 0
  have f1' := q6.frozen 1
  have hl6 := q6.lt
  simp at z0 z1
  clear k4 k5 k6 k7 p1 b5 b6 m6
  go_upto_region 2 with fail
  -- the world behind the first store
  have mW : Mod (fun k => k = w.heap.size + 1 + 1) w6 ((w6.setCell ⟨w.heap.size + 1 + 1, 0, none⟩ (.slice a1 r1.nodes.length c1)).setCell ⟨w.heap.size + 1 + 1, 1, none⟩ (.int .i64 r1.root)) :=
    ((Mod.refl (fun k => k = w.heap.size + 1 + 1) w6).setCell (p := ⟨w.heap.size + 1 + 1, 0, none⟩) (.inl rfl) _).setCell (p := ⟨w.heap.size + 1 + 1, 1, none⟩) (.inl rfl) _
  have x4 := q4.mod mW (by omega)
  have x5 := q5.mod mW (by omega)
  have x7 := q7.mod mW (by omega)
  have x6 := (q6.setCell 0 (.slice a1 r1.nodes.length c1)).setCell 1 (.int .i64 r1.root)
  have p1x := p1'.mod mW (fun b o e _ => by have := f1 b o e; omega)
  have bW : Below w.heap.size w ((w6.setCell ⟨w.heap.size + 1 + 1, 0, none⟩ (.slice a1 r1.nodes.length c1)).setCell ⟨w.heap.size + 1 + 1, 1, none⟩ (.int .i64 r1.root)) :=
    (hb.trans (b46.mono (by omega))).trans (mW.below (by have := b46.size; omega) (fun k hk e => by omega))
  have sW : W4.heap.size ≤ ((w6.setCell ⟨w.heap.size + 1 + 1, 0, none⟩ (.slice a1 r1.nodes.length c1)).setCell ⟨w.heap.size + 1 + 1, 1, none⟩ (.int .i64 r1.root)).heap.size := Nat.le_trans b46.size mW.size
  generalize hWW : (w6.setCell ⟨w.heap.size + 1 + 1, 0, none⟩ (.slice a1 r1.nodes.length c1)).setCell ⟨w.heap.size + 1 + 1, 1, none⟩ (.int .i64 r1.root) = WW at *
  have bWW : Below W4.heap.size W4 WW ∨ True := .inr trivial
  have rkW : Rd WW ka (brCells kn) := Rd.below rk bW
  have rdW : Rd WW da (brCells dn) := Rd.below rd bW
  have cn' : ∀ W, Below WW.heap.size WW W → Calls Tryz.prog 90 #[.agg #[.slice da dn.length dc, .int .i64 dr]] W (DgPost2 W (notD ⟨dn, dr⟩) 0) := fun W hW => by
    have := not_any ⟨⟨dn, dr⟩, da, dc⟩ W (Rd.below rdW hW)
    rw [hd.not.2.2] at this
    exact this
  have cq' : ∀ (W : World) (a : Option Addr) (cc : Nat), Below WW.heap.size WW W → Rd W a (brCells (notD ⟨dn, dr⟩).nodes) → Calls Tryz.prog 91 #[.agg #[.slice ka kn.length kc, .int .i64 kr], .agg #[.slice a (notD ⟨dn, dr⟩).nodes.length cc, .int .i64 (notD ⟨dn, dr⟩).root]] W (DgPost2 W (andD ⟨kn, kr⟩ (notD ⟨dn, dr⟩)) 0) := fun W a cc hW hy => by
    have := and_any ⟨⟨kn, kr⟩, ka, kc⟩ ⟨notD ⟨dn, dr⟩, a, cc⟩ W (Rd.below rkW hW) hy
    rw [hkn] at this
    exact this
  generalize andD ⟨kn, kr⟩ (notD ⟨dn, dr⟩) = r2 at *
  generalize notD ⟨dn, dr⟩ = nd at *
  have y40 := x4.cell 0
  have y41 := x4.cell 1
  have y50 := x5.cell 0
  have y51 := x5.cell 1
  simp at y40 y41 y50 y51
  have lx4 := x4.lt
  have lx5 := x5.lt
  have CN := Lib.hid cn'
  have CQ := Lib.hid cq'
  have wk2 : ∀ (d : Dg) (a : Option Addr) (cap : Nat) (W : World), Calls Tryz.prog 197 #[.pointer (some ⟨rb, 0, none⟩), .agg #[.slice a d.nodes.length cap, .int .i64 d.root], .int .i64 0] W fun e w' => e = .returned (.agg #[.slice a d.nodes.length cap, .int .i64 d.root]) ∧ Below W.heap.size W w' := fun d a cap W => want_ok rb ⟨d, a, cap⟩ W
  have WK := Lib.hid wk2
  clear wk2 cn cq cn' cq' hWW mW q4 q5 q6 q7 z0 z1 f0 f1' hl6
  go_region_with (first
    | (go_at_call 90; refine (CN.out _ (by exact (Below.refl _ WW).drew)).mono ?_; rintro e wn ⟨an, cn, rfl, rn, fn, bn⟩; have An := ((Below.refl _ WW).drew).trans bn; have q4 := x4.mod (Mod.of_below (S := fun _ => False) An) (fun h => h); have y0 := q4.cell 0; have y1 := q4.cell 1; have l4 := q4.lt; simp at y0 y1)
    | (go_at_call 91; refine (CQ.out _ an cn Am rm').mono ?_; rintro e wa ⟨aa, ca, rfl, ra, fa, ba⟩; have Aa := Am.trans (ba.mono Am.size))
    | (go_at_call 197; refine (WK.out r2 aa ca _).mono ?_; rintro e wz ⟨rfl, bz⟩; have Az := Aa.trans (bz.mono Aa.size); have q7 := x7.mod (Mod.of_below (S := fun _ => False) Az) (fun h => h); have y0 := q7.cell 0; have y1 := q7.cell 1; have g0 := q7.frozen 0; have g1 := q7.frozen 1; have l7 := q7.lt; simp at y0 y1)
    | (go_at_call 197; refine (WK.out nd an cn _).mono ?_; rintro e wm ⟨rfl, bm⟩; have Am := An.trans (bm.mono An.size); have rm' := rn.below bm; have q4 := x4.mod (Mod.of_below (S := fun _ => False) Am) (fun h => h); have y0 := q4.cell 0; have y1 := q4.cell 1; have l4 := q4.lt; simp at y0 y1))
  all_goals
    have m8 : Mod (fun k => k = w.heap.size + 1 + 1 + 1) wz ((wz.setCell ⟨w.heap.size + 1 + 1 + 1, 0, none⟩ (.slice aa r2.nodes.length ca)).setCell ⟨w.heap.size + 1 + 1 + 1, 1, none⟩ (.int .i64 r2.root)) :=
      ((Mod.refl (fun k => k = w.heap.size + 1 + 1 + 1) wz).setCell (p := ⟨w.heap.size + 1 + 1 + 1, 0, none⟩) (.inl rfl) _).setCell (p := ⟨w.heap.size + 1 + 1 + 1, 1, none⟩) (.inl rfl) _
    have X6 := (x6.mod (Mod.of_below (S := fun _ => False) Az) (fun h => h)).mod m8 (by omega)
    have X7 := (q7.setCell 0 (.slice aa r2.nodes.length ca)).setCell 1 (.int .i64 r2.root)
    have hz := Az.size
    have hm := Am.size
    have g1 : ∀ b o, a1 = some ⟨b, o, none⟩ → w.heap.size + 4 ≤ b := fun b o e => by have := f1 b o e; omega
    have g2 : ∀ b o, aa = some ⟨b, o, none⟩ → w.heap.size + 4 ≤ b := fun b o e => by have := fa b o e; have h2 : WW.heap.size ≤ wm.heap.size := hm; omega
    have R1 := (p1x.below Az).mod m8 (fun b o e _ => by have := g1 b o e; omega)
    have R2 := (ra.below bz).mod m8 (fun b o e _ => by have := g2 b o e; omega)
    have bz8 : Below w.heap.size w ((wz.setCell ⟨w.heap.size + 1 + 1 + 1, 0, none⟩ (.slice aa r2.nodes.length ca)).setCell ⟨w.heap.size + 1 + 1 + 1, 1, none⟩ (.int .i64 r2.root)) :=
      (bW.trans (Az.mono bW.size)).trans (m8.below (Nat.le_trans bW.size hz) (fun k hk e => by omega))
    generalize (wz.setCell ⟨w.heap.size + 1 + 1 + 1, 0, none⟩ (.slice aa r2.nodes.length ca)).setCell ⟨w.heap.size + 1 + 1 + 1, 1, none⟩ (.int .i64 r2.root) = W8 at *
    have y60 := X6.cell 0
    have y61 := X6.cell 1
    have y70 := X7.cell 0
    have y71 := X7.cell 1
    have f60 := X6.frozen 0
    have f61 := X6.frozen 1
    have f70 := X7.frozen 0
    have f71 := X7.frozen 1
    have l6 := X6.lt
    have l7 := X7.lt
    simp at y60 y61 y70 y71
    clear CN CQ WK x4 x5 x6 x7 y40 y41 y50 y51 q4 q7 m8 g0 rn bn An bm Am rm' fa ba Aa bz Az ra rkW rdW p1x p1'
    go_wp2_with fail
    go_region
    all_goals
      go_wp2_with fail
      have M9 : Mod (fun k => k = w.heap.size + 1 + 1 ∨ k = w.heap.size + 1 + 1 + 1) W8 ((((W8.setCell ⟨w.heap.size + 1 + 1, 0, none⟩ (.slice a1 r1.nodes.length c1)).setCell ⟨w.heap.size + 1 + 1, 1, none⟩ (.int .i64 r1.root)).setCell ⟨w.heap.size + 1 + 1 + 1, 0, none⟩ (.slice aa r2.nodes.length ca)).setCell ⟨w.heap.size + 1 + 1 + 1, 1, none⟩ (.int .i64 r2.root)).drew :=
        (((((Mod.refl (fun k => k = w.heap.size + 1 + 1 ∨ k = w.heap.size + 1 + 1 + 1) W8).setCell (p := ⟨w.heap.size + 1 + 1, 0, none⟩) (.inl (.inl rfl)) _).setCell (p := ⟨w.heap.size + 1 + 1, 1, none⟩) (.inl (.inl rfl)) _).setCell (p := ⟨w.heap.size + 1 + 1 + 1, 0, none⟩) (.inl (.inr rfl)) _).setCell (p := ⟨w.heap.size + 1 + 1 + 1, 1, none⟩) (.inl (.inr rfl)) _).drew
      have Y6 := ((((X6.setCell 0 (.slice a1 r1.nodes.length c1)).setCell 1 (.int .i64 r1.root)).setCell_other (p := ⟨w.heap.size + 1 + 1 + 1, 0, none⟩) (by show w.heap.size + 1 + 1 + 1 ≠ w.heap.size + 1 + 1; omega) (.slice aa r2.nodes.length ca)).setCell_other (p := ⟨w.heap.size + 1 + 1 + 1, 1, none⟩) (by show w.heap.size + 1 + 1 + 1 ≠ w.heap.size + 1 + 1; omega) (.int .i64 r2.root)).drew
      have Y7 := ((((X7.setCell_other (p := ⟨w.heap.size + 1 + 1, 0, none⟩) (by show w.heap.size + 1 + 1 ≠ w.heap.size + 1 + 1 + 1; omega) (.slice a1 r1.nodes.length c1)).setCell_other (p := ⟨w.heap.size + 1 + 1, 1, none⟩) (by show w.heap.size + 1 + 1 ≠ w.heap.size + 1 + 1 + 1; omega) (.int .i64 r1.root)).setCell 0 (.slice aa r2.nodes.length ca)).setCell 1 (.int .i64 r2.root)).drew
      have R1' := R1.mod M9 (fun b o e _ => by have := g1 b o e; omega)
      have R2' := R2.mod M9 (fun b o e _ => by have := g2 b o e; omega)
      have B9 := bz8.trans (M9.below bz8.size (fun k hk e => by omega))
      generalize ((((W8.setCell ⟨w.heap.size + 1 + 1, 0, none⟩ (.slice a1 r1.nodes.length c1)).setCell ⟨w.heap.size + 1 + 1, 1, none⟩ (.int .i64 r1.root)).setCell ⟨w.heap.size + 1 + 1 + 1, 0, none⟩ (.slice aa r2.nodes.length ca)).setCell ⟨w.heap.size + 1 + 1 + 1, 1, none⟩ (.int .i64 r2.root)).drew = W9 at *
      have t0 := Y6.cell 0
      have t1 := Y6.cell 1
      have t2 := Y7.cell 0
      have t3 := Y7.cell 1
      simp at t0 t1 t2 t3
      exact bodyPost_ret (v := .tuple #[.agg #[.slice a1 r1.nodes.length c1, .int .i64 r1.root], .agg #[.slice aa r2.nodes.length ca, .int .i64 r2.root]]) (by simp [results, Tryz.results138, go_sem, t0, t1, t2, t3]) rfl
        ⟨a1, c1, aa, ca, rfl, R1', R2', fun b o e => by have := g1 b o e; omega, fun b o e => by have := g2 b o e; omega, B9⟩
end Go.Proofs.YtpekmohnjpbkgaaGreatDoor
