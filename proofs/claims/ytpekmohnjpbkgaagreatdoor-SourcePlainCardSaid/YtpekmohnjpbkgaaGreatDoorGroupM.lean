/- The reader of files: number. The reader of files: clone. The reader of files: what a line of text does to its memory. -/
import Derived.Test.YtpekmohnjpbkgaaGreatDoorGroupK
import Derived.Test.YtpekmohnjpbkgaaGreatDoorGroupL
namespace Go.Proofs.YtpekmohnjpbkgaaGreatDoor
open Go Go.RowKit
set_option maxHeartbeats 1000000
set_option maxRecDepth 100000
attribute [local go_sem ↓] Go.wp_at_zero Go.wp_at_succ

/-- A number, or the panic of an error. -/
def NumPost7 (w : World) (r : Res Int) (e : Ending) (w' : World) : Prop :=
  match r with
  | .ok n => e = .returned (.int .i64 n) ∧ Below w.heap.size w w'
  | .error p => e = .panicked (plCh p) ∧ Below w.heap.size w w'

theorem byte_is {l : List UInt8} {n : Nat} (c : UInt8) (hn : n < l.length) : ((((⟨l.toArray⟩ : ByteArray)[n]'(show n < (⟨l.toArray⟩ : ByteArray).size from hn)).toNat : Int) = c.toNat) ↔ l[n]? = some c := by
  have e2 : (⟨l.toArray⟩ : ByteArray)[n]'(show n < (⟨l.toArray⟩ : ByteArray).size from hn) = l[n] := rfl
  rw [e2, List.getElem?_eq_getElem hn]
  constructor
  · intro h
    congr 1
    apply UInt8.toNat.inj
    exact_mod_cast h
  · intro h
    rw [Option.some.inj h]

theorem number_any (C : RC) (m : RV) (st : St) (s : List UInt8) (hs : s.length ≤ 1099511627775) (w : World) (h : RM C m st w) :
    Calls Tryz.prog 139 #[.pointer (some ⟨C.rb, 0, none⟩), str s] w (NumPost7 w (numF C.M s st)) := by
  have fl71 := h.fails 71
  have hd := h.below ((Below.refl _ w).drew)
  have fl73 := hd.fails 73
  have ct : Calls Tryz.prog 199 #[str s, .string ⟨#[34]⟩] w fun e w' => e = .returned (.int .i64 (s.count 34)) ∧ w = w' := (Tryz.strings_Count_one ⟨s.toArray⟩ 34 w).mono fun e w' h => ⟨h.1, h.2.symm⟩
  generalize hr : numF C.M s st = r
  have BAD : Hid ((s.length < 2 ∨ s.head? ≠ some 34 ∨ s.getLast? ≠ some 34 ∨ s.count 34 ≠ 2) → r = .error ⟨71, st.file, st.line⟩) := Lib.hid fun h => by
    rw [← hr]
    unfold numF
    rw [if_pos h]
    rfl
  have GOOD : Hid (¬ (s.length < 2 ∨ s.head? ≠ some 34 ∨ s.getLast? ≠ some 34 ∨ s.count 34 ≠ 2) → r = match aget C.M ((s.drop 1).take (s.length - 2)) with
      | none => .error ⟨73, st.file, st.line⟩
      | some n => if (aget st.reading n).getD false = true then .error ⟨73, st.file, st.line⟩ else .ok n) := Lib.hid fun h => by
    rw [← hr]
    unfold numF
    rw [if_neg h]
    rfl
  clear hr
  have hh : Hid (s.head? = s[0]?) := Lib.hid (by cases s <;> rfl)
  have hl : Hid (s.getLast? = s[s.length - 1]?) := Lib.hid List.getLast?_eq_getElem?
  have c2 := hd.blk.cell 2
  have c3 := hd.blk.cell 3
  have hlt := h.blk.lt
  simp [RC.cells] at c2 c3
  have hex := ext_cut s 1 (s.length - 1)
  have e12 : s.length - 1 - 1 = s.length - 2 := by omega
  rw [e12] at hex
  have hlk := hd.nums.lookup_ok (P := Tryz.prog) Tryz.underlying118 key_str (.int .i64 0) zero3 ((s.drop 1).take (s.length - 2))
  have hlr := fun n => hd.reading.lookup (P := Tryz.prog) Tryz.underlying119 key_int (.bool false) zero4 n
  generalize (s.drop 1).take (s.length - 2) = nm at *
  generalize hcn : s.count 34 = cn at *
  clear hcn e12
  go_enter Tryz.func139, Tryz.ntmps139
  go_upto_region 3 with (first | (go_at_call 199; refine ct.mono ?_; rintro e w' ⟨rfl, rfl⟩))
  · have hr := BAD.out (by
      have h2 : 2 ≤ (s.length : Int) := by assumption
      have h3 : (s.length : Int) < 2 ∨ ((cn : Int) != 2) = true := by assumption
      rcases h3 with h3 | h3
      · omega
      · rw [bne_iff_ne] at h3
        exact .inr (.inr (.inr (by omega))))
    rw [hr]
    refine fl71.mono ?_
    rintro e w2 ⟨rfl, m2⟩
    exact ⟨rfl, rfl, m2.below (Nat.le_refl _) (fun _ _ h => h)⟩
  · have h2 : 2 ≤ (s.length : Int) := by assumption
    have hr := GOOD.out (by
      have h3 : 2 ≤ (s.length : Int) ∧ ((cn : Int) != 2) = false := by assumption
      have h4 : ((((⟨s.toArray⟩ : ByteArray)[0]'(show 0 < s.length by omega)).toNat : Int) = 34) := by assumption
      have h5 : ((((⟨s.toArray⟩ : ByteArray)[s.length - 1]'(show s.length - 1 < s.length by omega)).toNat : Int) = 34) := by assumption
      have h6 := (byte_is (l := s) 34 (by omega)).1 h4
      have h7 := (byte_is (l := s) 34 (by omega)).1 h5
      have h8 := h3.2
      rw [bne_eq_false_iff_eq] at h8
      rw [hh.out, hl.out, h6, h7]
      simp
      omega)
    have HR := Lib.hid hr
    clear hr BAD GOOD hh hl ct fl71
    have i1 : (s.length : Int) ≤ 1099511627775 := by omega
    have hdn := (h.nums.drew).lt
    have hdr := (h.reading.drew).lt
    cases hg : aget C.M nm with
    | none =>
      have hr : r = .error ⟨73, st.file, st.line⟩ := by rw [HR.out, hg]
      rw [hg] at hlk
      simp only [Option.map_none, Option.getD_none, Option.isSome_none] at hlk
      clear hg HR hlr
      go_region
      all_goals
        go_wp2_with fail
        refine fl73.mono ?_
        rintro e w2 ⟨rfl, m2⟩
        exact ⟨rfl, rfl, ((Below.refl _ w).drew).trans (m2.below (Nat.le_refl _) (fun _ _ h => h))⟩
    | some n =>
      have hr : r = if (aget st.reading n).getD false = true then .error ⟨73, st.file, st.line⟩ else .ok n := by rw [HR.out, hg]
      rw [hg] at hlk
      have hln := hlr n
      simp only [Option.map_some, Option.getD_some, Option.isSome_some] at hlk
      have e1 : ((aget st.reading n).map Value.bool).getD (.bool false) = .bool ((aget st.reading n).getD false) := by cases aget st.reading n <;> rfl
      rw [e1] at hln
      generalize (aget st.reading n).getD false = rd at *
      have HR2 := Lib.hid hr
      clear hg HR hlr e1 hr
      cases rd
      · go_region
        all_goals
          go_wp2_with fail
          go_ret
          rw [HR2.out]
          exact ⟨rfl, (Below.refl _ w).drew⟩
      · go_region
        all_goals
          go_wp2_with fail
          refine fl73.mono ?_
          rintro e w2 ⟨rfl, m2⟩
          rw [HR2.out]
          exact ⟨rfl, rfl, ((Below.refl _ w).drew).trans (m2.below (Nat.le_refl _) (fun _ _ h => h))⟩
  · have hr := BAD.out (by
      have h2 : 2 ≤ (s.length : Int) := by assumption
      have h3 : ¬ ((((⟨s.toArray⟩ : ByteArray)[s.length - 1]'(show s.length - 1 < s.length by omega)).toNat : Int) = 34) := by assumption
      refine .inr (.inr (.inl ?_))
      rw [hl.out]
      exact fun e => h3 ((byte_is (l := s) 34 (by omega)).2 e))
    rw [hr]
    refine fl71.mono ?_
    rintro e w2 ⟨rfl, m2⟩
    exact ⟨rfl, rfl, m2.below (Nat.le_refl _) (fun _ _ h => h)⟩
  · have hr := BAD.out (by
      have h2 : 2 ≤ (s.length : Int) := by assumption
      have h3 : ¬ ((((⟨s.toArray⟩ : ByteArray)[0]'(show 0 < s.length by omega)).toNat : Int) = 34) := by assumption
      refine .inr (.inl ?_)
      rw [hh.out]
      exact fun e => h3 ((byte_is (l := s) 34 (by omega)).2 e))
    rw [hr]
    refine fl71.mono ?_
    rintro e w2 ⟨rfl, m2⟩
    exact ⟨rfl, rfl, m2.below (Nat.le_refl _) (fun _ _ h => h)⟩
  · have hr := BAD.out (.inl (by
      have h2 : (s.length : Int) < 2 := by assumption
      omega))
    rw [hr]
    refine fl71.mono ?_
    rintro e w2 ⟨rfl, m2⟩
    exact ⟨rfl, rfl, m2.below (Nat.le_refl _) (fun _ _ h => h)⟩
end Go.Proofs.YtpekmohnjpbkgaaGreatDoor

namespace Go.Proofs.YtpekmohnjpbkgaaGreatDoor
open Go Go.RowKit
set_option maxHeartbeats 1000000
set_option maxRecDepth 100000
attribute [local go_sem ↓] Go.wp_at_zero Go.wp_at_succ

theorem clone_any (x : DA) (w : World) (hx : x.ok w) (hl : x.d.nodes.length ≤ 4096) : Calls Tryz.prog 201 #[x.val] w (DgPost w x.d) := by
  obtain ⟨⟨N, root⟩, a, cap⟩ := x
  simp only [DA.val] at *
  have hb : Below w.heap.size w ((w.alloc (.cells #[.slice a N.length cap, .int .i64 root] 42)).alloc (.cells #[.slice none 0 0, .int .i64 0] 42)) :=
    Mod.below (S := fun k => w.heap.size ≤ k) (((Mod.refl _ _).alloc _).alloc _) (Nat.le_refl _) (fun k hk h => by omega)
  have k0 := (Blk.new w #[.slice a N.length cap, .int .i64 root] 42).alloc (.cells #[.slice none 0 0, .int .i64 0] 42)
  have k1 := Blk.new (w.alloc (.cells #[.slice a N.length cap, .int .i64 root] 42)) #[.slice none 0 0, .int .i64 0] 42
  simp only [World.size_alloc] at k1
  have hx2 : Rd _ a (brCells N) := Rd.below hx hb
  have hsz : ((w.alloc (.cells #[.slice a N.length cap, .int .i64 root] 42)).alloc (.cells #[.slice none 0 0, .int .i64 0] 42)).heap.size = w.heap.size + 2 := by simp
  cases N with
  | nil =>
    simp only [List.length_nil] at *
    go_enter Tryz.func201, Tryz.ntmps201
    go_wp2_with fail
    generalize (w.alloc (.cells #[.slice a 0 cap, .int .i64 root] 42)).alloc (.cells #[.slice none 0 0, .int .i64 0] 42) = W at *
    have c0 := k0.cell 0
    have c1 := k0.cell 1
    have d0 := k1.cell 0
    have d1 := k1.cell 1
    have f0 := k1.frozen 0
    have f1 := k1.frozen 1
    have l1 := k1.lt
    simp at c0 c1 d0 d1
    have bel := (below_two (k := w.heap.size + 1) hb (by omega) (.slice none 0 0) (.int .i64 root)).drew
    have z := (k1.setCell 0 (.slice none 0 0)).setCell 1 (.int .i64 root)
    have z0 := z.cell 0
    have z1 := z.cell 1
    simp at z0 z1
    cases a
    all_goals
      go_region
      all_goals
        go_wp2_with fail
        exact bodyPost_ret (v := .agg #[.slice none 0 0, .int .i64 root]) (by simp [results, Tryz.results201, go_sem, z0, z1]) rfl ⟨none, 0, rfl, Rd.nil _ _, (fun b o e => by cases e), bel⟩
  | cons y N =>
    obtain ⟨b, o, rfl, hb1, -⟩ := hx2.br (N := y :: N) (i := 0) (x := y) rfl
    have hnews : ∀ j u, (brCells (y :: N))[j]? = some u → (((w.alloc (.cells #[.slice (some ⟨b, o, none⟩) (y :: N).length cap, .int .i64 root] 42)).alloc (.cells #[.slice none 0 0, .int .i64 0] 42)).drew).cell? ((⟨b, o, none⟩ : Addr).add j) = some u := by
      intro j u hj
      obtain ⟨b', o', e, _, hc⟩ := hx2 j u hj
      cases e
      have hadd : (⟨b, o, none⟩ : Addr).add j = ⟨b, o + j, none⟩ := by unfold Addr.add; split <;> simp_all
      rw [hadd]
      exact hc
    have h1c : ∀ u ∈ brCells (y :: N), u.oneCell' = true := by
      intro u hu
      simp only [brCells, List.mem_flatMap] at hu
      obtain ⟨z, _, hz⟩ := hu
      simp [Br.cells] at hz
      rcases hz with rfl | rfl | rfl <;> rfl
    have hlN : (brCells (y :: N)).length = (y :: N).length * 3 := brCells_length _
    generalize hn : (y :: N).length = len at *
    have hpos : 0 < len := by rw [← hn]; simp
    obtain ⟨i, hi, hz0, hz1, hz2⟩ := info_parts info161
    go_enter Tryz.func201, Tryz.ntmps201
    go_wp2_with fail
    generalize (w.alloc (.cells #[.slice (some ⟨b, o, none⟩) len cap, .int .i64 root] 42)).alloc (.cells #[.slice none 0 0, .int .i64 0] 42) = W at *
    have c0 := k0.cell 0
    have c1 := k0.cell 1
    have l1 := k1.lt
    simp at c0 c1
    go_region_law ((refine step_append_lies W.drew (by rfl) _ _ 40 (by rfl) w.heap.size 161 i _ 3 24 Tryz.underlying40 hi hz0 hz1 hz2 rfl (by omega) (.slice none 0 0) 0 [] (by rfl) (World.ownsRow_nil _ _ _ _) ⟨b, o, none⟩ len cap (brCells (y :: N)) (by rfl) hlN hnews h1c hpos (by unfold maxLen; omega) (by omega) (by show w.heap.size ≤ W.heap.size; omega) W.heap.size (by rfl) ?_; intro g cp w1 hown1 hgrow hat hlt1; have q0 := (k0.drew).mod (Mod.of_grown hgrow) (fun e => by cases e); have q1 := (k1.drew).mod (Mod.of_grown hgrow) (fun e => by cases e); have c0 := q0.cell 0; have c1 := q0.cell 1; have d0 := q1.cell 0; have d1 := q1.cell 1; have f0 := q1.frozen 0; have f1 := q1.frozen 1; have l2 := q1.lt; simp at c0 c1 d0 d1))
    all_goals
      go_wp2_with fail
      have hg : g = W.heap.size := by
        rcases hat with e | e
        · cases e
        · exact e
      have o2 : OwnBr w.heap.size w1 (.slice (some ⟨g, 0, none⟩) (y :: N).length cp) (y :: N) := by
        unfold OwnBr
        rw [hn]
        simpa using hown1
      have m1 : Mod (fun _ => False) W w1 := ((Mod.refl (fun _ => False) W).drew).grown hgrow (fun k e _ => by cases e)
      have bel := below_two (k := w.heap.size + 1) (hb.trans (m1.below (B := w.heap.size) (by omega) (fun k _ h => h))) (by omega) (.slice (some ⟨g, 0, none⟩) len cp) (.int .i64 root)
      have R := rd_two_stores (k := w.heap.size + 1) o2.rd (fun b o e => by cases e; omega) (.slice (some ⟨g, 0, none⟩) len cp) (.int .i64 root)
      have z := (q1.setCell 0 (.slice (some ⟨g, 0, none⟩) len cp)).setCell 1 (.int .i64 root)
      have z0 := z.cell 0
      have z1 := z.cell 1
      simp at z0 z1
      exact bodyPost_ret (v := .agg #[.slice (some ⟨g, 0, none⟩) len cp, .int .i64 root]) (by simp [results, Tryz.results201, go_sem, z0, z1]) rfl ⟨some ⟨g, 0, none⟩, cp, by rw [← hn], R, (fun b o e => by cases e; omega), bel⟩
end Go.Proofs.YtpekmohnjpbkgaaGreatDoor

namespace Go.Proofs.YtpekmohnjpbkgaaGreatDoor
open Go Go.RowKit
set_option maxHeartbeats 1000000
set_option maxRecDepth 100000
attribute [local go_sem ↓] Go.wp_at_zero Go.wp_at_succ

theorem Rd.lt_of {w : World} {a : Option Addr} {cs : List Value} (h : Rd w a cs) (hc : cs ≠ []) : ∀ b o, a = some ⟨b, o, none⟩ → b < w.heap.size := by
  rintro b o rfl
  cases cs with
  | nil => exact absurd rfl hc
  | cons u cs =>
    obtain ⟨b', o', e, hlt, _⟩ := h 0 u rfl
    cases e
    exact hlt

section
variable {C : RC} {m : RV} {st : St} {w : World}

/-- The text has grown. -/
theorem RM.wrote (h : RM C m st w) (s : List UInt8) (hs : s ≠ []) {w' : World} {bv' : Value} (hb : Blk w' C.rb (bset (C.cells m st) C.rb 5 bv') 124) (ho : Own 5 1 byteCell C.base w' bv' (st.text ++ s))
    (hm : Mod (fun k => k = C.rb ∨ m.bv.ownBlock = some k) w w') (hn : ∀ g, bv'.ownBlock = some g → m.bv.ownBlock = some g ∨ w.heap.size ≤ g) (hok : StOk { st with text := st.text ++ s }) :
    RM C { m with bp := .pointer (some ⟨C.rb, 5, none⟩), bv := bv' } { st with text := st.text ++ s } w' ∧ Stp C m w { m with bp := .pointer (some ⟨C.rb, 5, none⟩), bv := bv' } w' := by
  have hs' : Stp C m w { m with bp := .pointer (some ⟨C.rb, 5, none⟩), bv := bv' } w' := by
    refine ⟨hm.mono (fun k _ e => ?_), fun k e => ?_⟩
    · rcases e with e | e
      · exact .inl e
      · exact .inr (.inr (.inl e))
    · rcases e with e | e | e | e
      · exact .inl (.inl e)
      · exact .inl (.inr (.inl e))
      · rcases hn k e with e | e
        · exact .inl (.inr (.inr (.inl e)))
        · exact .inr e
      · exact .inl (.inr (.inr (.inr e)))
  have hne45 : ∀ g, m.ov.ownBlock = some g → ¬ (g = C.rb ∨ m.bv.ownBlock = some g) := by
    rintro g e (rfl | e2)
    · exact h.out.ne_blk e h.blk (by decide) rfl
    · rcases h.buf.2 with ⟨h1, _⟩ | ⟨g', cap, cur, hv, _, hh, _⟩
      · rw [h1] at e2; cases e2
      · rw [hv] at e2
        cases e2
        exact h.out.ne_blk e (h' := hh) (by decide) rfl
  have hnb : ¬ (C.bm = C.rb ∨ m.bv.ownBlock = some C.bm) := by
    rintro (e | e)
    · exact h.reading.ne_blk h.blk e
    · exact h.buf.ne_map e h.reading rfl
  have hnn : ¬ (C.nm = C.rb ∨ m.bv.ownBlock = some C.nm) := by
    rintro (e | e)
    · exact h.numsOut (.inl e)
    · exact h.buf.ne_map e h.nums rfl
  refine ⟨⟨hb, .inr rfl, ho, fun e => absurd (List.append_eq_nil_iff.1 e).2 hs, h.out.mod hm hne45, h.segs, fun x hx => (h.sets x hx).step hs', h.reading.mod hm hnb, hok, h.names.step hs', h.files.step hs', h.nums.mod hm hnn, ?_, h.hb, h.hbm, fun k hk => Nat.lt_of_lt_of_le (h.xlt k hk) hs'.mod.size, fun k hk hX => (by rcases hs'.new k hk with e | e; exact h.xout k e hX; have := h.xlt k hX; omega), h.numsX⟩, hs'⟩
  intro e
  rcases hs'.new _ e with e | e
  · exact h.numsOut e
  · have := h.nums.lt
    omega

/-- A segment has been appended. -/
theorem RM.pushed (h : RM C m st w) (x : SegV) {w1 : World} {g cap : Nat} (ho : Own 45 6 SegV.cells C.base w1 (.slice (some ⟨g, 0, none⟩) (m.V.length + 1) cap) (m.V ++ [x])) (hm : Mod (fun k => m.ov.ownBlock = some k) w w1)
    (hg : m.ov.ownBlock = some g ∨ w.heap.size ≤ g) (hx : x.da.ok w1) (hxa : brCells x.da.d.nodes ≠ [] → ∀ b o, x.da.a = some ⟨b, o, none⟩ → w.heap.size ≤ b ∧ b ≠ g) (hsm : Sm 6 x.da.d) (hl : st.out.length < 65536) :
    RM C { m with ov := .slice (some ⟨g, 0, none⟩) (m.V.length + 1) cap, V := m.V ++ [x] } { st with out := st.out ++ [x.d] } (w1.setCell ⟨C.rb, 7, none⟩ (.slice (some ⟨g, 0, none⟩) (m.V.length + 1) cap)) ∧
    Stp C m w { m with ov := .slice (some ⟨g, 0, none⟩) (m.V.length + 1) cap, V := m.V ++ [x] } (w1.setCell ⟨C.rb, 7, none⟩ (.slice (some ⟨g, 0, none⟩) (m.V.length + 1) cap)) := by
  have hm2 : Mod (fun k => k = C.rb ∨ m.ov.ownBlock = some k) w (w1.setCell ⟨C.rb, 7, none⟩ (.slice (some ⟨g, 0, none⟩) (m.V.length + 1) cap)) :=
    (hm.mono (fun _ _ e => .inr e)).setCell (p := ⟨C.rb, 7, none⟩) (.inl (.inl rfl)) _
  have hs' : Stp C m w { m with ov := .slice (some ⟨g, 0, none⟩) (m.V.length + 1) cap, V := m.V ++ [x] } (w1.setCell ⟨C.rb, 7, none⟩ (.slice (some ⟨g, 0, none⟩) (m.V.length + 1) cap)) := by
    refine ⟨hm2.mono (fun k _ e => ?_), fun k e => ?_⟩
    · rcases e with e | e
      · exact .inl e
      · exact .inr (.inr (.inr e))
    · rcases e with e | e | e | e
      · exact .inl (.inl e)
      · exact .inl (.inr (.inl e))
      · exact .inl (.inr (.inr (.inl e)))
      · cases e
        rcases hg with e | e
        · exact .inl (.inr (.inr (.inr e)))
        · exact .inr e
  have k1 : Blk w1 C.rb (C.cells m st) 124 := h.blk.mod hm (fun e => h.out.ne_blk e h.blk (by decide) rfl)
  have hgr : g ≠ C.rb := ho.ne_blk rfl k1 (by decide)
  have hnb : ¬ (C.bm = C.rb ∨ m.ov.ownBlock = some C.bm) := by
    rintro (e | e)
    · exact h.reading.ne_blk h.blk e
    · exact h.out.ne_map e h.reading rfl
  have hnn : ¬ (C.nm = C.rb ∨ m.ov.ownBlock = some C.nm) := by
    rintro (e | e)
    · exact h.numsOut (.inl e)
    · exact h.out.ne_map e h.nums rfl
  have hbuf : ∀ k, m.bv.ownBlock = some k → ¬ (k = C.rb ∨ m.ov.ownBlock = some k) := by
    rintro k e (rfl | e2)
    · exact h.buf.ne_blk e h.blk (by decide) rfl
    · rcases h.buf.2 with ⟨h1, _⟩ | ⟨g', cap, cur, hv, _, hh, _⟩
      · rw [h1] at e; cases e
      · rw [hv] at e
        cases e
        exact h.out.ne_blk e2 (h' := hh) (by decide) rfl
  have o := h.ok
  refine ⟨⟨k1.setCell 7 _, h.bp, h.buf.mod hm2 hbuf, h.nil, ?_, ?_, ?_, h.reading.mod hm2 hnb, ⟨?_, o.text, by simp; omega, o.d0, o.d1⟩, h.names.step hs', h.files.step hs', h.nums.mod hm2 hnn, ?_, h.hb, h.hbm, fun k hk => Nat.lt_of_lt_of_le (h.xlt k hk) hs'.mod.size, fun k hk hX => (by rcases hs'.new k hk with e | e; exact h.xout k e hX; have := h.xlt k hX; omega), h.numsX⟩, hs'⟩
  · have := ho.setCell (p := ⟨C.rb, 7, none⟩) (fun g' e => by cases e; exact hgr) (.slice (some ⟨g, 0, none⟩) (m.V.length + 1) cap)
    exact this
  · show (m.V ++ [x]).map SegV.d = _
    rw [List.map_append, h.segs]
    rfl
  · intro y hy
    rcases List.mem_append.1 hy with hy | hy
    · exact (h.sets y hy).step hs'
    · rw [List.mem_singleton] at hy
      subst hy
      by_cases hc : brCells y.da.d.nodes = []
      · rw [hc]
        exact ⟨Rd.nil _ _, fun h => absurd rfl h⟩
      have hxa := hxa hc
      have key : ∀ b o, y.da.a = some ⟨b, o, none⟩ → ¬ ASet C { m with ov := .slice (some ⟨g, 0, none⟩) (m.V.length + 1) cap, V := m.V ++ [y] } b := by
        intro b o e hk
        have h1 := hxa b o e
        rcases hk with (e2 | e2 | e2 | e2) | e2
        · have := h.lt (k := b) (.inl e2); omega
        · have := h.lt (k := b) (.inr (.inl e2)); omega
        · have := h.lt (k := b) (.inr (.inr (.inl e2))); omega
        · cases e2
          exact h1.2 rfl
        · have := h.xlt _ e2; omega
      refine ⟨Rd.mod hx (S := fun k => k = C.rb) ((Mod.refl (fun k => k = C.rb) w1).setCell (p := ⟨C.rb, 7, none⟩) (.inl rfl) _) (fun b o e _ e2 => key b o e (.inl (.inl e2))), fun _ => key⟩
  · intro y hy
    rcases List.mem_append.1 hy with hy | hy
    · exact o.sets y hy
    · rw [List.mem_singleton] at hy
      subst hy
      exact hsm
  · intro e
    rcases hs'.new _ e with e | e
    · exact h.numsOut e
    · have := h.nums.lt
      omega

/-- The last segment of a row grows. -/
theorem Own.last {base g cap : Nat} {D : List SegV} {x : SegV} (h : Own 45 6 SegV.cells base w (.slice (some ⟨g, 0, none⟩) (D.length + 1) cap) (D ++ [x])) (n : Int) :
    Own 45 6 SegV.cells base (w.setCell ⟨g, D.length * 6 + 1, none⟩ (.int .i64 n)) (.slice (some ⟨g, 0, none⟩) (D.length + 1) cap) (D ++ [{ x with till := n }]) := by
  obtain ⟨h1, h2⟩ := h
  have hlD : (rowCells SegV.cells D).length = D.length * 6 := by
    clear h1 h2
    induction D with
    | nil => rfl
    | cons y D ih =>
      have e : rowCells SegV.cells (y :: D) = y.cells ++ rowCells SegV.cells D := rfl
      rw [e, List.length_append, ih, List.length_cons]
      simp [SegV.cells]
      omega
  refine ⟨?_, ?_⟩
  · rw [rowCells_append, List.length_append, hlD]
    simp [rowCells, SegV.cells]
    omega
  · rw [show (D ++ [({ x with till := n } : SegV)]).length = D.length + 1 by simp]
    simp only [List.length_append, List.length_cons, List.length_nil, Nat.zero_add] at h2
    rcases h2 with ⟨h2, _⟩ | ⟨g', cap', cur, hv, hg, hh, h3, h4, h5, h6⟩
    · cases h2
    · cases hv
      refine .inr ⟨g, cap, cur.setIfInBounds (D.length * 6 + 1) (.int .i64 n), rfl, hg, ?_, h3, h4, by simpa using h5, ?_⟩
      · simp only [World.setCell, Array.getElem?_modify, hh]
        simp
      · rw [Array.toList_setIfInBounds, List.take_set, h6, rowCells_append, rowCells_append]
        rw [List.set_append_right _ _ (by omega), hlD]
        have e : D.length * 6 + 1 - D.length * 6 = 1 := by omega
        rw [e]
        rfl

theorem RM.last (h : RM C m st w) {g cap : Nat} {D : List SegV} {x : SegV} (hV : m.V = D ++ [x]) (hov : m.ov = .slice (some ⟨g, 0, none⟩) (D.length + 1) cap) (n : Int) :
    RM C { m with V := D ++ [{ x with till := n }] } { st with out := setLast st.out n } (w.setCell ⟨g, D.length * 6 + 1, none⟩ (.int .i64 n)) ∧ Stp C m w { m with V := D ++ [{ x with till := n }] } (w.setCell ⟨g, D.length * 6 + 1, none⟩ (.int .i64 n)) := by
  have hm : Mod (fun k => k = g) w (w.setCell ⟨g, D.length * 6 + 1, none⟩ (.int .i64 n)) := Mod.write w ⟨g, D.length * 6 + 1, none⟩ (.int .i64 n)
  have hog : m.ov.ownBlock = some g := by rw [hov]; rfl
  have hs' : Stp C m w { m with V := D ++ [{ x with till := n }] } (w.setCell ⟨g, D.length * 6 + 1, none⟩ (.int .i64 n)) :=
    ⟨hm.mono (fun k _ e => by rw [e]; exact .inr (.inr (.inr hog))), fun k e => .inl e⟩
  have hgr : g ≠ C.rb := h.out.ne_blk hog h.blk (by decide)
  have o := h.ok
  have hout : st.out = D.map SegV.d ++ [x.d] := by rw [← h.segs, hV, List.map_append]; rfl
  have hsl : setLast st.out n = (D ++ [{ x with till := n }]).map SegV.d := by
    rw [hout]
    unfold setLast
    simp [SegV.d]
  refine ⟨⟨h.blk.mod hm (fun e => hgr e.symm), h.bp, h.buf.mod hm (fun k e e2 => ?_), h.nil, ?_, hsl.symm, ?_, h.reading.mod hm (fun e => h.out.ne_map hog h.reading e.symm), ⟨setLast_mem o.sets, o.text, by rw [setLast_len]; exact o.out, o.d0, o.d1⟩, h.names.step hs', h.files.step hs', h.nums.mod hm (fun e => h.out.ne_map hog h.nums e.symm), h.numsOut, h.hb, h.hbm, fun k hk => Nat.lt_of_lt_of_le (h.xlt k hk) hs'.mod.size, fun k hk hX => (by rcases hs'.new k hk with e | e; exact h.xout k e hX; have := h.xlt k hX; omega), h.numsX⟩, hs'⟩
  · subst e2
    rcases h.buf.2 with ⟨h1, _⟩ | ⟨g', cap, cur, hv, _, hh, _⟩
    · rw [h1] at e; cases e
    · rw [hv] at e
      cases e
      exact h.out.ne_blk hog (h' := hh) (by decide) rfl
  · have ho := h.out
    rw [hov, hV] at ho
    have := Own.last ho n
    show Own 45 6 SegV.cells C.base _ m.ov _
    rw [hov]
    exact this
  · intro y hy
    rcases List.mem_append.1 hy with hy | hy
    · exact (h.sets y (by rw [hV]; exact List.mem_append_left _ hy)).step hs'
    · rw [List.mem_singleton] at hy
      subst hy
      exact (h.sets x (by rw [hV]; simp)).step hs'
end
end Go.Proofs.YtpekmohnjpbkgaaGreatDoor
