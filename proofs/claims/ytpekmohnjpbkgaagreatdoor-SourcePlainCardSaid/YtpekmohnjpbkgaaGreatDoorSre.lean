/- source.Read. -/
import Derived.Test.YtpekmohnjpbkgaaGreatDoorSrd
import Derived.Test.YtpekmohnjpbkgaaGreatDoorGroupO
import Derived.Laws.EntriesVeiled
namespace Go.Proofs.YtpekmohnjpbkgaaGreatDoor
open Go Go.RowKit
set_option maxHeartbeats 4000000
set_option maxRecDepth 100000
attribute [local go_sem ↓] Go.wp_at_zero Go.wp_at_succ

/-- A source and a place that a call has made. -/
def ReadPost (w : World) (r : SrcD × Pl) (e : Ending) (w' : World) : Prop :=
  ∃ a cap V, e = .returned (.tuple #[.agg #[str r.1.text, .slice a V.length cap], .agg #[.int .i64 r.2.e, .int .i64 r.2.file, .int .i64 r.2.line]]) ∧ V.map SegV.d = r.1.segs ∧ SegsAt w' a V ∧ (∀ b o, a = some ⟨b, o, none⟩ → w.heap.size ≤ b) ∧ Below w.heap.size w w'

theorem ReadPost.bad {w w' : World} {p : Pl} (h : Below w.heap.size w w') : ReadPost w (⟨[], []⟩, p) (.returned (.tuple #[.agg #[str [], .slice none 0 0], .agg #[.int .i64 p.e, .int .i64 p.file, .int .i64 p.line]])) w' :=
  ⟨none, 0, [], rfl, rfl, ⟨Rd.nil _ _, fun x hx => by cases hx⟩, (fun b o e => by cases e), h⟩

/-- The two results' places, written. -/
theorem boxes_out {W : World} {k : Nat} {x0 x1 y0 y1 y2 : Value} (g0 : Blk W k #[x0, x1] 29) (g1 : Blk W (k + 1) #[y0, y1, y2] 32) (u0 u1 v0 v1 v2 : Value) :
    Blk (((((W.setCell ⟨k, 0, none⟩ u0).setCell ⟨k, 1, none⟩ u1).setCell ⟨k + 1, 0, none⟩ v0).setCell ⟨k + 1, 1, none⟩ v1).setCell ⟨k + 1, 2, none⟩ v2) k #[u0, u1] 29 ∧
    Blk (((((W.setCell ⟨k, 0, none⟩ u0).setCell ⟨k, 1, none⟩ u1).setCell ⟨k + 1, 0, none⟩ v0).setCell ⟨k + 1, 1, none⟩ v1).setCell ⟨k + 1, 2, none⟩ v2) (k + 1) #[v0, v1, v2] 32 ∧
    Mod (fun i => i = k ∨ i = k + 1) W (((((W.setCell ⟨k, 0, none⟩ u0).setCell ⟨k, 1, none⟩ u1).setCell ⟨k + 1, 0, none⟩ v0).setCell ⟨k + 1, 1, none⟩ v1).setCell ⟨k + 1, 2, none⟩ v2) := by
  have e0 := ((((g0.setCell 0 u0).setCell 1 u1).setCell_other (p := ⟨k + 1, 0, none⟩) (by show k + 1 ≠ k; omega) v0).setCell_other (p := ⟨k + 1, 1, none⟩) (by show k + 1 ≠ k; omega) v1).setCell_other (p := ⟨k + 1, 2, none⟩) (by show k + 1 ≠ k; omega) v2
  have e1 := ((((g1.setCell_other (p := ⟨k, 0, none⟩) (by show k ≠ k + 1; omega) u0).setCell_other (p := ⟨k, 1, none⟩) (by show k ≠ k + 1; omega) u1).setCell 0 v0).setCell 1 v1).setCell 2 v2
  refine ⟨by simpa using e0, by simpa using e1, ?_⟩
  exact (((((Mod.refl (fun i => i = k ∨ i = k + 1) W).setCell (p := ⟨k, 0, none⟩) (.inl (.inl rfl)) u0).setCell (p := ⟨k, 1, none⟩) (.inl (.inl rfl)) u1).setCell (p := ⟨k + 1, 0, none⟩) (.inl (.inr rfl)) v0).setCell (p := ⟨k + 1, 1, none⟩) (.inl (.inr rfl)) v1).setCell (p := ⟨k + 1, 2, none⟩) (.inl (.inr rfl)) v2
theorem boxes_below {w W W' : World} (hb : Below w.heap.size w W) (hm : Mod (fun i => i = w.heap.size ∨ i = w.heap.size + 1) W W') : Below w.heap.size w W' :=
  hb.trans (Mod.below hm hb.size (fun k hk h => by omega))

/-- What the files are when Read goes on. -/
theorem filesR_ok {fs : List Fl} (h : (filesR fs).e = 0) : fs.length ≤ 256 ∧ ∀ f ∈ fs, f.text.length ≤ 1048576 ∧ (f.text ≠ [] → f.text.getLast? = some 10) := by
  have hlen : ¬ 256 < fs.length := by
    intro hc
    unfold filesR at h
    rw [if_pos hc] at h
    simp at h
  unfold filesR at h
  rw [if_neg hlen] at h
  refine ⟨by omega, ?_⟩
  have key : ∀ (l : List Fl) (i : Int) (seen : List (List UInt8 × Bool)), (filesF l i seen).e = 0 → ∀ f ∈ l, f.text.length ≤ 1048576 ∧ (f.text ≠ [] → f.text.getLast? = some 10) := by
    intro l
    induction l with
    | nil => intro i seen _ f hf; cases hf
    | cons g l ih =>
      intro i seen hh f hf
      cases hb : fileBad seen g with
      | true => rw [filesF_bad hb] at hh; simp at hh
      | false =>
        by_cases hl : 1048576 < g.text.length
        · rw [filesF_long hb hl] at hh; simp at hh
        · rw [filesF_next hb hl] at hh
          rcases List.mem_cons.1 hf with rfl | hf
          · refine ⟨by omega, fun hne => ?_⟩
            unfold fileBad at hb
            simp only [Bool.or_eq_false_iff, Bool.and_eq_false_iff, decide_eq_false_iff_not, Decidable.not_not] at hb
            rcases hb.2.2.1 with h1 | h1
            · exact absurd h1 hne
            · exact h1
          · exact ih _ _ hh f hf
  exact key fs 0 [] h

theorem st0_good : StOk st0 := ⟨(fun x hx => by cases hx), by decide, by decide, by decide, by decide⟩
def m00 : RV := ⟨.pointer none, .slice none 0 0, .slice none 0 0, []⟩
theorem RM.start {C : RC} {W : World} (hblk : Blk W C.rb (C.cells m00 st0) 124) (hread : MapAt (Value.int .i64) Value.bool W C.bm []) (hnums : MapAt str (Value.int .i64) W C.nm C.M) (hL : Rd W C.na (C.L.map str)) (hF : Rd W C.fa (rowCells Fl.cells C.fs))
    (ha : ∀ b o, C.na = some ⟨b, o, none⟩ → C.L.map str ≠ [] → b < C.base) (hf : ∀ b o, C.fa = some ⟨b, o, none⟩ → rowCells Fl.cells C.fs ≠ [] → b < C.base) (h1 : C.nm ≠ C.rb) (h2 : C.nm ≠ C.bm) (hb : C.base ≤ C.rb) (hbm : C.base ≤ C.bm) (hX : ∀ k, C.X k → k < C.base) (hn : C.base ≤ C.nm)
    (hXa : ∀ b o, C.na = some ⟨b, o, none⟩ → C.L.map str ≠ [] → ¬ C.X b) (hXf : ∀ b o, C.fa = some ⟨b, o, none⟩ → rowCells Fl.cells C.fs ≠ [] → ¬ C.X b) : RM C m00 st0 W := by
  have rge : ∀ k, RSet C m00 k → C.base ≤ k := by
    rintro k (e | e | e | e)
    · omega
    · omega
    · cases e
    · cases e
  refine ⟨hblk, .inl rfl, Own.nil _ _, fun _ => rfl, Own.nil _ _, rfl, (fun x hx => by cases hx), hread, st0_good, ⟨hL, fun hc b o e hk => ?_⟩, ⟨hF, fun hc b o e hk => ?_⟩, hnums, ?_, hb, hbm, fun k hk => ?_, fun k hk hx => ?_, fun hx => ?_⟩
  · rcases hk with hk | hk
    · have := rge b hk; have := ha b o e hc; omega
    · exact hXa b o e hc hk
  · rcases hk with hk | hk
    · have := rge b hk; have := hf b o e hc; omega
    · exact hXf b o e hc hk
  · rintro (e | e | e | e)
    · exact h1 e
    · exact h2 e
    · cases e
    · cases e
  · have := hX k hk; have := hblk.lt; omega
  · have := hX k hx; have := rge k hk; omega
  · have := hX _ hx; omega

/-- Nothing but going on. -/
def onlyNormal (Q : Exit → Act → World → Prop) : Exit → Act → World → Prop
  | .normal, a, w => Q .normal a w
  | _, _, _ => False
theorem wp_only {P : Program} {c : Code} {Q : Exit → Act → World → Prop} {a : Act} {w : World} (h : c.wp P (onlyNormal Q) a w) : c.wp P Q a w := by
  refine Code.wp_mono (fun e a' w' h => ?_) h
  cases e <;> first | exact h | exact h.elim

/-- The segments that the reader has made are a source's. -/
theorem RM.source {C : RC} {m : RV} {st : St} {w w' : World} (h : RM C m st w) (hm : Mod (fun k => m.bv.ownBlock = some k ∨ C.X k) w w') {oa : Option Addr} {oc : Nat} (hov : m.ov = .slice oa m.V.length oc) : SegsAt w' oa m.V := by
  have hS : ∀ k, (m.bv.ownBlock = some k ∨ C.X k) → ASet C m k := by
    rintro k (e | e)
    · exact .inl (.inr (.inr (.inl e)))
    · exact .inr e
  have ho : Own 45 6 SegV.cells C.base w' m.ov m.V := h.out.mod hm (fun g hg e => by
    rcases e with e | e
    · rcases h.buf.2 with ⟨h1, _⟩ | ⟨g', cap, cur, hv, _, hh, _⟩
      · rw [h1] at e; cases e
      · rw [hv] at e
        cases e
        exact h.out.ne_blk hg (h' := hh) (by decide) rfl
    · exact h.xout g (.inr (.inr (.inr hg))) e)
  rw [hov] at ho
  refine ⟨ho.rd, fun x hx => ?_⟩
  by_cases hc : brCells x.da.d.nodes = []
  · unfold DA.ok; rw [hc]; exact Rd.nil _ _
  · exact (h.sets x hx).rd.mod hm (fun b o e _ hk => (h.sets x hx).out hc b o e (hS b hk))

theorem read_top (L : List (List UInt8)) (fs : List Fl) (root : List UInt8) (h6 : L.length ≤ 6) (hs : ∀ s ∈ L, s.length ≤ 1099511627776) (hf : ∀ f ∈ fs, f.name.length ≤ 1099511627776 ∧ f.text.length ≤ 1099511627776) (hfl : fs.length ≤ 1099511627776)
    (na : Option Addr) (nc : Nat) (fa : Option Addr) (fc : Nat) (w : World) (hL : Rd w na (L.map str)) (hF : Rd w fa (rowCells Fl.cells fs)) :
    Calls Tryz.prog 24 #[.slice na L.length nc, .slice fa fs.length fc, str root] w (ReadPost w (readAll L fs root)) := by
  have hmm := @run_makeMap Tryz.prog
  have hmf : ∀ (fn : Fn) (first cap : Array Value) (w : World), (Instr.makeFunc fn first cap).run Tryz.prog w = .ok (.func fn first cap) w := fun _ _ _ _ => rfl
  have k0 := (Blk.new w #[str [], .slice none 0 0] 29).alloc (.cells #[.int .i64 0, .int .i64 0, .int .i64 0] 32)
  have k1 := Blk.new (w.alloc (.cells #[str [], .slice none 0 0] 29)) #[.int .i64 0, .int .i64 0, .int .i64 0] 32
  have hb : Below w.heap.size w ((w.alloc (.cells #[str [], .slice none 0 0] 29)).alloc (.cells #[.int .i64 0, .int .i64 0, .int .i64 0] 32)) :=
    Mod.below (S := fun k => w.heap.size ≤ k) (((Mod.refl _ _).alloc _).alloc _) (Nat.le_refl _) (fun k hk h => by omega)
  have hsz0 : ((w.alloc (.cells #[str [], .slice none 0 0] 29)).alloc (.cells #[.int .i64 0, .int .i64 0, .int .i64 0] 32)).heap.size = w.heap.size + 2 := by simp
  simp only [World.size_alloc] at k1
  have hp := parse_any L hs (by omega) na nc sTrue (by decide) _ (hL.below hb)
  generalize hR : readAll L fs root = R
  have HR := Lib.hid hR
  clear hR
  by_cases hpe : (parseF L sTrue).2 = 0
  · have hpb : ((parseF L sTrue).2 != 0) = false := by rw [bne_eq_false_iff_eq]; exact hpe
    have hnx : R = if (filesR fs).e ≠ 0 then (⟨[], []⟩, filesR fs) else
      match aget (numG (fs.map Fl.name) 0 []) root with
      | none => (⟨[], []⟩, ⟨73, -1, 0⟩)
      | some n =>
        match readF L (numG (fs.map Fl.name) 0 []) (fs.map Fl.text) 65 n (constD true) st0 with
        | .error p => (⟨[], []⟩, p)
        | .ok st => (⟨st.text, st.out⟩, ⟨0, 0, 0⟩) := by
      rw [← HR.out]
      unfold readAll
      rw [if_neg (by rw [hpe]; decide)]
      rfl
    have HR2 := Lib.hid hnx
    generalize (parseF L sTrue).2 = pe at *
    clear HR hpe hnx
    go_enter_defers Tryz.func24, Tryz.ntmps24
    go_wp2_with fail
    refine hp.mono ?_
    rintro e w1 ⟨pa, pcap, rfl, hc, hrd, hge, b1⟩
    have g0 := k0.mod (Mod.of_below (S := fun _ => False) b1) (fun h => h)
    have g1 := k1.mod (Mod.of_below (S := fun _ => False) b1) (fun h => h)
    have bb := hb.trans (b1.mono (by omega))
    have hck := checkFiles_any fs hf hfl fa fc w1 (hF.below bb)
    clear hp hrd hge hc k0 k1 hb
    generalize hfr : filesR fs = fr at *
    go_wp2_with fail
    refine hck.mono ?_
    rintro e w2 ⟨rfl, b2⟩
    have g2 := g0.mod (Mod.of_below (S := fun _ => False) b2) (fun h => h)
    have g3 := g1.mod (Mod.of_below (S := fun _ => False) b2) (fun h => h)
    have bb2 := bb.trans (b2.mono bb.size)
    clear hck g0 g1 b1 b2
    have g4 := g2.alloc (.cells #[.int .i64 fr.e, .int .i64 fr.file, .int .i64 fr.line] 32)
    have g5 := g3.alloc (.cells #[.int .i64 fr.e, .int .i64 fr.file, .int .i64 fr.line] 32)
    have g6 := Blk.new w2 #[.int .i64 fr.e, .int .i64 fr.file, .int .i64 fr.line] 32
    have bb3 := bb2.alloc bb2.size (.cells #[.int .i64 fr.e, .int .i64 fr.file, .int .i64 fr.line] 32)
    have hw2 : w.heap.size + 1 < w2.heap.size := g3.lt
    go_upto_region 5 with fail
    generalize hq2 : w2.heap.size = q2 at *
    generalize w2.alloc (.cells #[.int .i64 fr.e, .int .i64 fr.file, .int .i64 fr.line] 32) = W3 at *
    clear g2 g3 bb2 bb hq2
    have z0 := g6.cell 0
    have z1 := g6.cell 1
    have z2 := g6.cell 2
    have zl := g6.lt
    have c0 := g4.cell 0
    have c1 := g4.cell 1
    have d0 := g5.cell 0
    have d1 := g5.cell 1
    have d2 := g5.cell 2
    have f0 := g4.frozen 0
    have f1 := g4.frozen 1
    have e0 := g5.frozen 0
    have e1 := g5.frozen 1
    have e2 := g5.frozen 2
    have l0 := g4.lt
    have l1 := g5.lt
    simp at z0 z1 z2 c0 c1 d0 d1 d2
    have n0 : q2 ≠ w.heap.size := by omega
    have n1 : q2 ≠ w.heap.size + 1 := by omega
    have n2 : w.heap.size ≠ q2 := by omega
    have n3 : w.heap.size + 1 ≠ q2 := by omega
    by_cases hfe : fr.e = 0
    · have hfb : (fr.e != 0) = false := by rw [bne_eq_false_iff_eq]; exact hfe
      have hnx : R = match aget (numG (fs.map Fl.name) 0 []) root with
        | none => (⟨[], []⟩, ⟨73, -1, 0⟩)
        | some n =>
          match readF L (numG (fs.map Fl.name) 0 []) (fs.map Fl.text) 65 n (constD true) st0 with
          | .error p => (⟨[], []⟩, p)
          | .ok st => (⟨st.text, st.out⟩, ⟨0, 0, 0⟩) := by
        rw [HR2.out, if_neg (by rw [hfe]; decide)]
      have HR3 := Lib.hid hnx
      obtain ⟨h256, htx⟩ := filesR_ok (by rw [hfr]; exact hfe)
      clear HR2 hnx hfr hfe
      have hB : W3.heap.size = W3.heap.size := rfl
      have a1 := MapAt.new (K := List UInt8) (V := Int) (kv := str) (vv := Value.int .i64) W3
      have a2 := (a1.alloc (.map #[] 0)).alloc (.cells #[.slice na L.length nc, .slice fa fs.length fc, .map (some W3.heap.size), .map (some (W3.heap.size + 1)), .int .i64 0, .pointer none, .slice none 0 0, .slice none 0 0, .bool false, .int .i64 0, .int .i64 0] 124)
      have a3 := (MapAt.new (K := Int) (V := Bool) (kv := Value.int .i64) (vv := Value.bool) (W3.alloc (.map #[] 0))).alloc (.cells #[.slice na L.length nc, .slice fa fs.length fc, .map (some W3.heap.size), .map (some (W3.heap.size + 1)), .int .i64 0, .pointer none, .slice none 0 0, .slice none 0 0, .bool false, .int .i64 0, .int .i64 0] 124)
      have a4 := Blk.new ((W3.alloc (.map #[] 0)).alloc (.map #[] 0)) #[.slice na L.length nc, .slice fa fs.length fc, .map (some W3.heap.size), .map (some (W3.heap.size + 1)), .int .i64 0, .pointer none, .slice none 0 0, .slice none 0 0, .bool false, .int .i64 0, .int .i64 0] 124
      have a5 := ((g4.alloc (.map #[] 0)).alloc (.map #[] 0)).alloc (.cells #[.slice na L.length nc, .slice fa fs.length fc, .map (some W3.heap.size), .map (some (W3.heap.size + 1)), .int .i64 0, .pointer none, .slice none 0 0, .slice none 0 0, .bool false, .int .i64 0, .int .i64 0] 124)
      have a6 := ((g5.alloc (.map #[] 0)).alloc (.map #[] 0)).alloc (.cells #[.slice na L.length nc, .slice fa fs.length fc, .map (some W3.heap.size), .map (some (W3.heap.size + 1)), .int .i64 0, .pointer none, .slice none 0 0, .slice none 0 0, .bool false, .int .i64 0, .int .i64 0] 124)
      have a7 : Below w.heap.size w (((W3.alloc (.map #[] 0)).alloc (.map #[] 0)).alloc (.cells #[.slice na L.length nc, .slice fa fs.length fc, .map (some W3.heap.size), .map (some (W3.heap.size + 1)), .int .i64 0, .pointer none, .slice none 0 0, .slice none 0 0, .bool false, .int .i64 0, .int .i64 0] 124)) :=
        ((bb3.alloc bb3.size _).alloc (by simp; have := bb3.size; omega) _).alloc (by simp; have := bb3.size; omega) _
      simp only [World.size_alloc] at a3 a4
      have hB0 : w.heap.size + 1 < W3.heap.size := by omega
      have hB1 : q2 < W3.heap.size := zl
      have sz4 : (((W3.alloc (.map #[] 0)).alloc (.map #[] 0)).alloc (.cells #[.slice na L.length nc, .slice fa fs.length fc, .map (some W3.heap.size), .map (some (W3.heap.size + 1)), .int .i64 0, .pointer none, .slice none 0 0, .slice none 0 0, .bool false, .int .i64 0, .int .i64 0] 124)).heap.size = W3.heap.size + 3 := by simp
      go_upto_region 8 with fail
      generalize W3.heap.size = B at *
      generalize (((W3.alloc (.map #[] 0)).alloc (.map #[] 0)).alloc (.cells #[.slice na L.length nc, .slice fa fs.length fc, .map (some B), .map (some (B + 1)), .int .i64 0, .pointer none, .slice none 0 0, .slice none 0 0, .bool false, .int .i64 0, .int .i64 0] 124)) = W4 at *
      clear f0 f1 e0 e1 e2 c0 c1 d0 d1 d2 z0 z1 z2 l0 l1 g4 g5 g6 bb3 zl a1 hfb hpb hB hsz0
      generalize hlen : fs.length = len at *
      have HN := Lib.hid hlen
      clear hlen
      go_wp2_with fail
      go_loopg [40, 12, 13] (len + 1) (fun k ct u12 u13 wr => ∃ i : Nat, i ≤ len ∧ k + i = len + 1 ∧ ct = .int .i64 i ∧ ∃ m, MapAt str (Value.int .i64) wr B m ∧ Hid (numG ((fs.map Fl.name).drop i) i m = numG (fs.map Fl.name) 0 []) ∧ Mod (fun k => k = B) W4 wr)
      case atStart => exact ⟨0, Nat.zero_le _, rfl, rfl, [], a2, rfl, Mod.refl _ _⟩
      case round =>
        obtain ⟨i, hi, hk, rfl, m, hm, HG, hmod⟩ := hrel
        have hbw : Below w.heap.size w wr := a7.trans (Mod.below hmod a7.size (fun k hk e => by omega))
        have hw4 : W4.heap.size ≤ wr.heap.size := hmod.size
        have rbk := a4.mod hmod (by omega)
        by_cases hlt : i < len
        · obtain ⟨x, hx⟩ : ∃ x, fs[i]? = some x := ⟨fs[i]'(by have := HN.out; omega), List.getElem?_eq_getElem _⟩
          obtain ⟨fb, fo, rfl, hfb, xc⟩ := (hF.below hbw).elem (c := 2) (fun _ => rfl) (by omega) hx
          have x0 := xc 0 (by omega)
          have x1 := xc 1 (by omega)
          simp only [Fl.cells, List.getElem?_cons_zero, List.getElem?_cons_succ, Nat.add_zero] at x0 x1
          have hd : (fs.map Fl.name).drop i = x.name :: (fs.map Fl.name).drop (i + 1) := drop_of (by rw [List.getElem?_map, hx]; rfl)
          have HG2 : Hid (numG ((fs.map Fl.name).drop (i + 1)) (i + 1) (aset m x.name i) = numG (fs.map Fl.name) 0 []) := Lib.hid (by rw [← HG.out, hd]; rfl)
          have i0 : (0 : Int) ≤ (i : Int) := by omega
          have i1 : (i : Int) < (len : Int) := by omega
          have c6 := Blk.new wr #[str x.name, str x.text] 38
          have hm6 := hm.alloc (.cells #[str x.name, str x.text] 38)
          have rb6 := rbk.alloc (.cells #[str x.name, str x.text] 38)
          have mod6 := hmod.alloc (.cells #[str x.name, str x.text] 38)
          have sz6 : (wr.alloc (.cells #[str x.name, str x.text] 38)).heap.size = wr.heap.size + 1 := by simp
          clear hx hd HG xc
          go_upto_region 11 with fail
          generalize hq : wr.heap.size = q at *
          generalize wr.alloc (.cells #[str x.name, str x.text] 38) = W6 at *
          have z0 := c6.cell 0
          have z1 := c6.cell 1
          have zl := c6.lt
          have r2 := rb6.cell 2
          have rl := rb6.lt
          simp at z0 z1 r2
          clear x0 x1 hfb hm rbk hmod hq
          go_still_tail 7, (by kernel_rfl)
          refine wpList_mapUpdate_at (by rfl) 118 _ _ _ (by rfl) 9 3 Tryz.underlying118 key_str B m (by rfl) hm6 x.name (by rfl) (i : Int) (by rfl) ?_
          intro w5 m2 m3' m4
          have m3 : Mod (fun k => k = B) W6 w5 := ⟨m3'.os, m3'.tape, m3'.output, m3'.size, m3'.block⟩
          have M4 := Lib.hid m4
          clear m4 m3'
          go_wp2_with fail
          go_roundg (len - i)
          case measure => omega
          case rel => exact ⟨i + 1, by omega, by omega, by go_num, _, m2, HG2, mod6.trans m3⟩
        · have hii : i = len := by omega
          subst hii
          have hd : (fs.map Fl.name).drop i = [] := List.drop_of_length_le (by rw [List.length_map, HN.out]; exact Nat.le_refl _)
          have hg2 : m = numG (fs.map Fl.name) 0 [] := by rw [← HG.out, hd]; rfl
          have hna : ∀ b o, na = some ⟨b, o, none⟩ → L.map str ≠ [] → b < w.heap.size := fun b o e hc => hL.lt_of hc b o e
          have hfa : ∀ b o, fa = some ⟨b, o, none⟩ → rowCells Fl.cells fs ≠ [] → b < w.heap.size := fun b o e hc => hF.lt_of hc b o e
          have hlen3 : fs.length = i := HN.out
          obtain ⟨C, hC, hRM, hCrb, hCX, hCL, hCM, hCfs, hCb⟩ : ∃ C : RC, RCok C ∧ RM C m00 st0 wr ∧ C.rb = B + 1 + 1 ∧ (∀ k, C.X k ↔ (k = w.heap.size ∨ k = w.heap.size + 1)) ∧ C.L = L ∧ C.M = m ∧ C.fs = fs ∧ C.base = B := by
            refine ⟨⟨B, B + 1 + 1, B, B + 1, na, nc, fa, fc, L, fs, fun k => k = w.heap.size ∨ k = w.heap.size + 1⟩, ⟨h6, hs, by show fs.length ≤ 256; omega, htx, fun f hfm => (hf f hfm).1⟩, ?_, rfl, fun _ => Iff.rfl, rfl, hg2.symm, rfl, rfl⟩
            refine RM.start ?_ (a3.mod hmod (by omega)) (by rw [hg2] at hm; exact hm) (hL.below hbw) (hF.below hbw) ?_ ?_ (by show B ≠ B + 1 + 1; omega) (by show B ≠ B + 1; omega) (by show B ≤ B + 1 + 1; omega) (by show B ≤ B + 1; omega) ?_ (Nat.le_refl _) ?_ ?_
            · show Blk wr (B + 1 + 1) #[.slice na L.length nc, .slice fa fs.length fc, .map (some B), .map (some (B + 1)), .int .i64 0, .pointer none, .slice none 0 0, .slice none 0 0, .bool false, .int .i64 0, .int .i64 0] 124
              rw [hlen3]
              exact rbk
            · intro b o e hc
              have := hna b o e hc
              show b < B
              omega
            · intro b o e hc
              have := hfa b o e hc
              show b < B
              omega
            · intro k hk
              have hk : k = w.heap.size ∨ k = w.heap.size + 1 := hk
              show k < B
              omega
            · intro b o e hc hk
              have hk : b = w.heap.size ∨ b = w.heap.size + 1 := hk
              have := hna b o e hc
              omega
            · intro b o e hc hk
              have hk : b = w.heap.size ∨ b = w.heap.size + 1 := hk
              have := hfa b o e hc
              omega
          have hRNG : ∀ n, aget m root = some n → 0 ≤ n ∧ n < C.fs.length := fun n hg => by
            rw [hg2] at hg
            have h9 := numG_range (fs.map Fl.name) _ _ hg
            rw [List.length_map] at h9
            rw [hCfs]
            exact ⟨h9.1, h9.2.1⟩
          have hlk := hm.lookup_ok (P := Tryz.prog) Tryz.underlying118 key_str (.int .i64 0) zero3 root
          have hml := hm.lt
          have r2 := rbk.cell 2
          have rl := rbk.lt
          simp at r2
          have x4 := a5.mod hmod (by omega)
          have x5 := a6.mod hmod (by omega)
          have hres := HR3.out
          rw [← hg2, ← hCL, ← hCM, ← hCfs] at hres
          rw [hCM] at hres
          have c0 := x4.cell 0
          have c1 := x4.cell 1
          have d0 := x5.cell 0
          have d1 := x5.cell 1
          have d2 := x5.cell 2
          have f0 := x4.frozen 0
          have f1 := x4.frozen 1
          have e0 := x5.frozen 0
          have e1 := x5.frozen 1
          have e2 := x5.frozen 2
          have l0 := x4.lt
          have l1 := x5.lt
          simp at c0 c1 d0 d1 d2
          clear hd HG HR3 hm rbk a2 a3 a4 a5 a6 a7 hmod sz4 hw4
          cases hg : aget m root with
          | none =>
            rw [hg] at hlk hres
            simp only [Option.map_none, Option.getD_none, Option.isSome_none] at hlk
            simp only at hres
            have HRES := Lib.hid hres
            clear hres hg hRNG
            go_wp2_with fail
            obtain ⟨q0, q1, qm⟩ := boxes_out x4 x5 (str []) (.slice none 0 0) (.int .i64 73) (.int .i64 (-1)) (.int .i64 0)
            have r0 := q0.cell 0
            have r1 := q0.cell 1
            have r2' := q1.cell 0
            have r3 := q1.cell 1
            have r4 := q1.cell 2
            simp at r0 r1 r2' r3 r4
            simp [bodyPostD, Leaves, results, Tryz.results24, go_sem, r0, r1, r2', r3, r4]
            rw [HRES.out]
            exact ReadPost.bad (p := ⟨73, -1, 0⟩) (boxes_below hbw qm)
          | some n =>
            rw [hg] at hlk hres
            simp only [Option.map_some, Option.getD_some, Option.isSome_some] at hlk
            simp only at hres
            have HRES := Lib.hid hres
            obtain ⟨n0, n1⟩ := hRNG n hg
            clear hres hg hRNG
            have hkc := constant_any true wr
            have hrd : ∀ (W5 : World) (ka : Option Addr) (kcap : Nat), Below wr.heap.size wr W5 → Calls Tryz.prog 73 #[.pointer (some ⟨B + 1 + 1, 0, none⟩), .int .i64 n, .agg #[.slice ka (constD true).nodes.length kcap, .int .i64 (constD true).root]] W5 (StPost C m00 W5 (readF C.L m (C.fs.map Fl.text) 65 n (constD true) st0)) := by
              intro W5 ka kcap b5
              have h5 := read_any 65 C hC m00 st0 n ⟨constD true, ka, kcap⟩ W5 (hRM.below b5) (Sm.const true).1 ⟨Rd.nil _ _, fun h => absurd rfl h⟩ n0 n1 (by decide)
              rw [hCrb, hCM] at h5
              exact h5
            generalize readF C.L m (C.fs.map Fl.text) 65 n (constD true) st0 = res at *
            have HRD := Lib.hid hrd
            clear hrd
            go_upto_region 17 with fail
            clear hlk hml r2
            go_wp2_with fail
            refine hkc.mono ?_
            rintro e W5 ⟨ka, kcap, rfl, -, -, b5⟩
            go_wp2_with fail
            refine (HRD.out _ _ _ b5).mono ?_
            rintro e W6 hpost
            have y4 := x4.mod (Mod.of_below (S := fun _ => False) b5) (fun h => h)
            have y5 := x5.mod (Mod.of_below (S := fun _ => False) b5) (fun h => h)
            have bw5 := hbw.trans (b5.mono hbw.size)
            have hRM5 := hRM.below b5
            have X0 : ∀ k, RSet C m00 k → k ≠ w.heap.size ∧ k ≠ w.heap.size + 1 := fun k hk => by
              have h1 := hRM.xout k hk
              rw [hCX] at h1
              exact ⟨fun e => h1 (.inl e), fun e => h1 (.inr e)⟩
            have hcb : ∀ k, RSet C m00 k → w.heap.size ≤ k := fun k hk => by have := hRM.ge hk; omega
            clear HRD hkc x4 x5
            cases res with
            | error p =>
              obtain ⟨rfl, md⟩ := hpost
              have z4 := y4.mod md (fun hk => (X0 _ hk).1 rfl)
              have z5 := y5.mod md (fun hk => (X0 _ hk).2 rfl)
              have bw6 : Below w.heap.size w W6 := bw5.trans (Mod.below md bw5.size (fun k hk hr => by have := hcb k hr; omega))
              have hres := HRES.out
              simp only at hres
              subst hres
              refine leaves_cons (f := 72) (args := #[.pointer (some ⟨w.heap.size, 0, none⟩), .pointer (some ⟨w.heap.size + 1, 0, none⟩)]) (by simp) (by simp [go_sem]) ?_
              refine (read1_panicking w.heap.size p _ _ [] W6 z4 z5 rfl rfl).mono ?_
              rintro e u' W7 ⟨rfl, rfl, q0, q1, qm⟩
              have r0 := q0.cell 0
              have r1 := q0.cell 1
              have r2 := q1.cell 0
              have r3 := q1.cell 1
              have r4 := q1.cell 2
              simp at r0 r1 r2 r3 r4
              simp [Leaves, settle, results, Tryz.results24, go_sem, r0, r1, r2, r3, r4]
              exact ReadPost.bad (boxes_below bw6 qm)
            | ok st =>
              obtain ⟨rfl, m', rm6, sp6⟩ := hpost
              have z4 := y4.mod sp6.mod (fun hk => (X0 _ hk).1 rfl)
              have z5 := y5.mod sp6.mod (fun hk => (X0 _ hk).2 rfl)
              have bw6 : Below w.heap.size w W6 := bw5.trans (Mod.below sp6.mod bw5.size (fun k hk hr => by have := hcb k hr; omega))
              have hres := HRES.out
              simp only at hres
              subst hres
              obtain ⟨oa, oc, hov⟩ := rm6.out.form
              have X1 : ∀ k, RSet C m' k → k ≠ w.heap.size ∧ k ≠ w.heap.size + 1 := fun k hk => by
                have h1 := rm6.xout k hk
                rw [hCX] at h1
                exact ⟨fun e => h1 (.inl e), fun e => h1 (.inr e)⟩
              have hcb1 : ∀ k, RSet C m' k → w.heap.size ≤ k := fun k hk => by have := rm6.ge hk; omega
              have hstr := string_any C.rb 5 _ m'.bv C.base st.text W6.drew rm6.blk.drew rfl rm6.buf.drew rm6.nil
              rw [hCrb] at hstr
              have b6 : Blk W6 (B + 1 + 1) (C.cells m' st) 124 := by rw [← hCrb]; exact rm6.blk
              have v7 := b6.cell 7
              have vl := b6.lt
              simp [RC.cells, hov] at v7
              have hst2 : Calls Tryz.prog 74 #[.pointer (some ⟨B + 1 + 1, 5, none⟩)] W6.drew fun e W7 => e = .returned (str st.text) ∧ Mod (fun k => m'.bv.ownBlock = some k) W6 W7 ∧ W7.cell? ⟨B + 1 + 1, 7, none⟩ = some (.slice oa m'.V.length oc) ∧ B + 1 + 1 < W7.heap.size ∧ Blk W7 w.heap.size #[str [], .slice none 0 0] 29 ∧ Blk W7 (w.heap.size + 1) #[.int .i64 0, .int .i64 0, .int .i64 0] 32 := by
                refine hstr.mono ?_
                rintro e W7 ⟨rfl, md7⟩
                have md8 : Mod (fun k => m'.bv.ownBlock = some k) W6 W7 := ⟨md7.os, md7.tape, md7.output, md7.size, md7.block⟩
                have b7 := b6.mod md8 (fun e => rm6.buf.ne_blk e rm6.blk (by decide) hCrb.symm)
                have w7 := b7.cell 7
                simp [RC.cells, hov] at w7
                exact ⟨rfl, md8, w7, b7.lt, z4.mod md8 (fun e => (X1 _ (.inr (.inr (.inl e)))).1 rfl), z5.mod md8 (fun e => (X1 _ (.inr (.inr (.inl e)))).2 rfl)⟩
              have hVl : (m'.V.length : Int) ≤ 65536 := by
                have h1 := rm6.ok.out
                rw [← rm6.segs, List.length_map] at h1
                omega
              generalize hvn : m'.V.length = vn at *
              have z0 := z4.cell 0
              have z1 := z4.cell 1
              have zl := z4.lt
              have zf0 := z4.frozen 0
              have zf1 := z4.frozen 1
              clear hstr b6
              go_wp2_with fail
              refine wp_only ?_
              go_region_with (go_at_call 74; refine hst2.mono ?_; rintro e W7 ⟨rfl, md7, w7, wl, p4, p5⟩; have u0 := p4.cell 0; have u1 := p4.cell 1; have uf0 := p4.frozen 0; have uf1 := p4.frozen 1; have ul := p4.lt; have v0 := p5.cell 0; have v1 := p5.cell 1; have v2 := p5.cell 2; have vf0 := p5.frozen 0; have vf1 := p5.frozen 1; have vf2 := p5.frozen 2; have vl2 := p5.lt; simp at u0 u1 v0 v1 v2)
              all_goals
                simp only [onlyNormal]
                go_wp2_with fail
                obtain ⟨q0, q1, qm⟩ := boxes_out p4 p5 (str st.text) (.slice oa vn oc) (.int .i64 0) (.int .i64 0) (.int .i64 0)
                have bw7 : Below w.heap.size w W7 := bw6.trans (Mod.below md7 bw6.size (fun k hk hr => by have := hcb1 k (.inr (.inr (.inl hr))); omega))
                have bwF := boxes_below bw7 qm
                refine leaves_cons (f := 72) (args := #[.pointer (some ⟨w.heap.size, 0, none⟩), .pointer (some ⟨w.heap.size + 1, 0, none⟩)]) (by simp) (by simp [go_sem]) ?_
                refine (read1_idle w.heap.size _).mono ?_
                rintro e u' W8 ⟨rfl, rfl, b8⟩
                have Q0 := q0.mod (Mod.of_below (S := fun _ => False) b8) (fun h => h)
                have Q1 := q1.mod (Mod.of_below (S := fun _ => False) b8) (fun h => h)
                have hm8 : Mod (fun k => m'.bv.ownBlock = some k ∨ C.X k) W6 W8 := ((md7.mono (fun k _ e => .inl e)).trans (qm.mono (fun k _ e => .inr ((hCX k).2 e)))).trans (Mod.of_below b8)
                have bw8 := bwF.trans (b8.mono bwF.size)
                have r0 := Q0.cell 0
                have r1 := Q0.cell 1
                have r2 := Q1.cell 0
                have r3 := Q1.cell 1
                have r4 := Q1.cell 2
                simp at r0 r1 r2 r3 r4
                simp [Leaves, settle, results, Tryz.results24, go_sem, r0, r1, r2, r3, r4]
                refine ⟨oa, oc, m'.V, by rw [hvn], rm6.segs, rm6.source hm8 (by rw [hov, hvn]), fun b o e => ?_, bw8⟩
                have h9 := (rm6.out.lt (g := b) (by rw [hov, e]; rfl)).1
                omega
    · have hR : R = (⟨[], []⟩, fr) := by rw [HR2.out, if_pos hfe]
      subst hR
      have hfb : (fr.e != 0) = true := by rw [bne_iff_ne]; exact hfe
      clear HR2 hfe hfr
      go_upto_region 6 with fail
      go_region
      all_goals
        go_wp2_with fail
        obtain ⟨q0, q1, qm⟩ := boxes_out g4 g5 (str []) (.slice none 0 0) (.int .i64 fr.e) (.int .i64 fr.file) (.int .i64 fr.line)
        have r0 := q0.cell 0
        have r1 := q0.cell 1
        have r2 := q1.cell 0
        have r3 := q1.cell 1
        have r4 := q1.cell 2
        simp at r0 r1 r2 r3 r4
        simp [bodyPostD, Leaves, results, Tryz.results24, go_sem, r0, r1, r2, r3, r4]
        exact ReadPost.bad (boxes_below bb3 qm).drew
  · have hR : R = (⟨[], []⟩, ⟨30, -1, 0⟩) := by rw [← HR.out]; unfold readAll; rw [if_pos hpe]
    subst hR
    have hpb : ((parseF L sTrue).2 != 0) = true := by rw [bne_iff_ne]; exact hpe
    generalize (parseF L sTrue).2 = pe at *
    clear HR hpe
    go_enter_defers Tryz.func24, Tryz.ntmps24
    go_wp2_with fail
    refine hp.mono ?_
    rintro e w1 ⟨a, cap, rfl, hc, hrd, hge, b1⟩
    have g0 := k0.mod (Mod.of_below (S := fun _ => False) b1) (fun h => h)
    have g1 := k1.mod (Mod.of_below (S := fun _ => False) b1) (fun h => h)
    have c0 := g0.cell 0
    have c1 := g0.cell 1
    have d0 := g1.cell 0
    have d1 := g1.cell 1
    have d2 := g1.cell 2
    have f0 := g0.frozen 0
    have f1 := g0.frozen 1
    have e0 := g1.frozen 0
    have e1 := g1.frozen 1
    have e2 := g1.frozen 2
    have l0 := g0.lt
    have l1 := g1.lt
    simp at c0 c1 d0 d1 d2
    clear hp
    go_wp2_with fail
    obtain ⟨q0, q1, qm⟩ := boxes_out g0 g1 (str []) (.slice none 0 0) (.int .i64 30) (.int .i64 (-1)) (.int .i64 0)
    have r0 := q0.cell 0
    have r1 := q0.cell 1
    have r2 := q1.cell 0
    have r3 := q1.cell 1
    have r4 := q1.cell 2
    simp at r0 r1 r2 r3 r4
    simp [bodyPostD, Leaves, results, Tryz.results24, go_sem, r0, r1, r2, r3, r4]
    exact ReadPost.bad (p := ⟨30, -1, 0⟩) (boxes_below (hb.trans (b1.mono (by omega))) qm)
end Go.Proofs.YtpekmohnjpbkgaaGreatDoor
