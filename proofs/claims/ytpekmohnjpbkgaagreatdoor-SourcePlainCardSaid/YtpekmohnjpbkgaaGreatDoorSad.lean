/- The reader of files: add. -/
import Derived.Test.YtpekmohnjpbkgaaGreatDoorGroupM
namespace Go.Proofs.YtpekmohnjpbkgaaGreatDoor
open Go Go.RowKit
set_option maxHeartbeats 4000000
set_option maxRecDepth 100000
attribute [local go_sem ↓] Go.wp_at_zero Go.wp_at_succ

theorem RM.out_form {C : RC} {m : RV} {st : St} {w : World} (h : RM C m st w) (hne : st.out ≠ []) : ∃ D x g cp, m.V = D ++ [x] ∧ m.ov = .slice (some ⟨g, 0, none⟩) (D.length + 1) cp := by
  have hV : m.V ≠ [] := fun e => hne (by rw [← h.segs, e]; rfl)
  obtain ⟨D, x, hD⟩ : ∃ D x, m.V = D ++ [x] := ⟨m.V.dropLast, m.V.getLast hV, (List.dropLast_concat_getLast hV).symm⟩
  rcases h.out.2 with ⟨_, h0⟩ | ⟨g, cp, cur, hv, _⟩
  · rw [hD] at h0
    simp at h0
  · refine ⟨D, x, g, cp, hD, ?_⟩
    rw [hv, hD]
    simp
theorem RM.cell_last {C : RC} {m : RV} {st : St} {w : World} (h : RM C m st w) {g cap : Nat} {D : List SegV} {x : SegV} (hV : m.V = D ++ [x]) (hov : m.ov = .slice (some ⟨g, 0, none⟩) (D.length + 1) cap) :
    ∃ u, w.cell? ⟨g, D.length * 6 + 1, none⟩ = some u ∧ w.frozen? ⟨g, D.length * 6 + 1, none⟩ = false ∧ g < w.heap.size := by
  have ho := h.out
  rw [hov, hV] at ho
  have ho2 := ho.2
  simp only [List.length_append, List.length_cons, List.length_nil, Nat.zero_add] at ho2
  rcases ho2 with ⟨h1, _⟩ | ⟨g', cp, cur, hv, _, hh, hc, _, hs, _⟩
  · cases h1
  · cases hv
    have hk : Blk w g cur 45 := hh
    have hl : D.length * 6 + 1 < cur.size := by rw [hs]; omega
    exact ⟨cur[D.length * 6 + 1], by rw [hk.cell]; exact Array.getElem?_eq_getElem hl, hk.frozen _, hk.lt⟩

theorem d8_of {C : RC} {m : RV} {st : St} {w : World} {fr : Bool} (h : st.fresh = fr) (q : Blk w C.rb (C.cells m st) 124) : w.cell? ⟨C.rb, 8, none⟩ = some (.bool fr) := by
  rw [q.cell, ← h]; rfl

theorem push_all {C : RC} {m : RV} {st : St} {W0 wc w1 : World} (h1 : RM C m st W0) {vo : Option Addr} {vc : Nat} (hov : m.ov = .slice vo st.out.length vc) (bc : Below W0.heap.size W0 wc) {kA : Option Addr} {kC : Nat} {kd : Dg} {pos : Int} {o1 : Obj} (rkc : Rd wc kA (brCells kd.nodes)) (fkc : ∀ b o, kA = some ⟨b, o, none⟩ → W0.heap.size ≤ b)
    {g cp : Nat} (hown1 : Own 45 6 SegV.cells C.base w1 (.slice (some ⟨g, 0, none⟩) (m.V.length + 1) cp) (m.V ++ [⟨st.text.length, 0, st.file, pos, ⟨kd, kA, kC⟩⟩])) (hgrow : (wc.alloc o1).grownBy w1 (Value.slice vo st.out.length vc).ownBlock)
    (hat : (Value.slice vo st.out.length vc).ownBlock = some g ∨ g = wc.heap.size + 1) (hk : Sm 6 kd) (hB3 : st.out.length < 65536) :
    ∃ m1, RM C m1 { st with out := st.out ++ [⟨st.text.length, 0, st.file, pos, kd⟩], fresh := false } ((w1.setCell ⟨C.rb, 7, none⟩ (.slice (some ⟨g, 0, none⟩) (m.V.length + 1) cp)).setCell ⟨C.rb, 8, none⟩ (.bool false)) ∧
      Stp C m W0 m1 ((w1.setCell ⟨C.rb, 7, none⟩ (.slice (some ⟨g, 0, none⟩) (m.V.length + 1) cp)).setCell ⟨C.rb, 8, none⟩ (.bool false)) := by
  have hmm : Mod (fun k => m.ov.ownBlock = some k) W0 w1 := ((Mod.of_below bc).alloc _).grown hgrow (fun k e _ => by rw [hov]; exact e)
  have hold : ∀ b, m.ov.ownBlock = some b → b < W0.heap.size := fun b e => (h1.out.lt e).2
  have hwc2 : W0.heap.size ≤ wc.heap.size := bc.size
  have ps := h1.pushed ⟨st.text.length, 0, st.file, pos, ⟨kd, kA, kC⟩⟩ hown1 hmm (by
    rcases hat with e | e
    · exact .inl (by rw [hov]; exact e)
    · exact .inr (by omega)) (by
    refine Rd.mod rkc (S := fun k => m.ov.ownBlock = some k) (((Mod.refl _ wc).alloc _).grown hgrow (fun k e _ => by rw [hov]; exact e)) (fun b o e _ e2 => ?_)
    have := fkc b o e
    have := hold b e2
    omega) (fun hc b o e => ⟨fkc b o e, by
    have h3 := rkc.lt_of hc b o e
    have h4 := fkc b o e
    rcases hat with e2 | e2
    · have := hold g (by rw [hov]; exact e2)
      omega
    · omega⟩) hk hB3
  have o := ps.1.ok
  have pk := ps.1.poke 8 (.bool false) { st with out := st.out ++ [⟨st.text.length, 0, st.file, pos, kd⟩], fresh := false } rfl rfl rfl rfl ⟨o.sets, o.text, o.out, o.d0, o.d1⟩
  exact ⟨_, pk.1, ps.2.trans pk.2⟩

theorem add_any (C : RC) (m : RV) (st : St) (s : List UInt8) (hs : s ≠ []) (hsl : s.length ≤ 1048576) (pos : Int) (k : DA) (hk : Sm 6 k.d) (w : World) (h : RM C m st w) (hfr0 : st.fresh = false → st.out ≠ []) (hko : k.ok w) :
    Calls Tryz.prog 142 #[.pointer (some ⟨C.rb, 0, none⟩), str s, .int .i64 pos, k.val] w (StPost C m w (addF s pos k.d st)) := by
  obtain ⟨kd, ka, kc⟩ := k
  simp only [DA.val, DA.ok] at *
  have b0 : Below w.heap.size w (w.alloc (.cells #[.slice ka kd.nodes.length kc, .int .i64 kd.root] 42)) := (Below.refl _ _).alloc (Nat.le_refl _) _
  have h1 := h.below b0
  have s01 : Stp C m w m (w.alloc (.cells #[.slice ka kd.nodes.length kc, .int .i64 kd.root] 42)) := Stp.of_below b0
  have kk := Blk.new w #[.slice ka kd.nodes.length kc, .int .i64 kd.root] 42
  have hko1 : Rd _ ka (brCells kd.nodes) := Rd.below hko b0
  have ln := len_any C.rb 5 _ m.bv C.base st.text _ h1.blk rfl h1.buf
  obtain ⟨vo, vc, hov⟩ := h.out.form
  have hVl : m.V.length = st.out.length := by rw [← h.segs]; simp
  have hok := h.ok
  have ot := hok.text
  have oo := hok.out
  have c7 := h1.blk.cell 7
  have c8 := h1.blk.cell 8
  have c9 := h1.blk.cell 9
  have hlt := h1.blk.lt
  simp [RC.cells] at c7 c8 c9
  rw [hov] at c7
  rw [hVl] at c7 hov
  have fl := h1.fails 2
  generalize hr : addF s pos kd st = r
  have HR := Lib.hid hr
  clear hr
  have hadd : addF s pos kd st = if 1048576 < st.text.length + s.length ∨ (st.fresh = true ∧ st.out.length = 65536) then st.fail 2 else
      .ok { st with out := setLast (if st.fresh then st.out ++ [⟨st.text.length, 0, st.file, pos, kd⟩] else st.out) (st.text.length + s.length : Nat), fresh := false, text := st.text ++ s } := rfl
  have HA := Lib.hid hadd
  clear hadd
  by_cases hA : 1048576 < st.text.length + s.length
  · have hr : r = .error ⟨2, st.file, st.line⟩ := by rw [← HR.out, HA.out, if_pos (.inl hA)]; rfl
    subst hr
    clear HR HA
    generalize st.text.length = tl at *
    go_enter Tryz.func142, Tryz.ntmps142
    go_wp2_with fail
    refine ln.mono ?_
    rintro e w' ⟨rfl, rfl⟩
    go_wp2_with fail
    all_goals
      refine fl.mono ?_
      rintro e w2 ⟨rfl, m2⟩
      exact ⟨rfl, rfl, s01.mod.trans (m2.mono (fun _ _ h => h.elim))⟩
  by_cases hB : st.fresh = true ∧ st.out.length = 65536
  · have hr : r = .error ⟨2, st.file, st.line⟩ := by rw [← HR.out, HA.out, if_pos (.inr hB)]; rfl
    subst hr
    rw [hB.1] at c8
    rw [hB.2] at c7
    clear HR HA hB
    generalize st.text.length = tl at *
    go_enter Tryz.func142, Tryz.ntmps142
    go_wp2_with fail
    refine ln.mono ?_
    rintro e w' ⟨rfl, rfl⟩
    go_wp2_with fail
    refine fl.mono ?_
    rintro e w2 ⟨rfl, m2⟩
    exact ⟨rfl, rfl, s01.mod.trans (m2.mono (fun _ _ h => h.elim))⟩
  have hr : r = .ok { st with out := setLast (if st.fresh then st.out ++ [⟨st.text.length, 0, st.file, pos, kd⟩] else st.out) (st.text.length + s.length : Nat), fresh := false, text := st.text ++ s } := by
    rw [← HR.out, HA.out, if_neg (by rintro (h | h); exact hA h; exact hB h)]
  subst hr
  have hres := HR.out
  have hfin := (addF_ok hres hok hfr0 hk hs).1
  have HF := Lib.hid hfin
  clear HR HA fl hres hfin
  have hBi : st.fresh = true → ((st.out.length : Int) == 65536) = false := fun hf => by have hne : st.out.length ≠ 65536 := fun e => hB ⟨hf, e⟩; rw [beq_eq_false_iff_ne]; omega
  have HBI := Lib.hid hBi
  have cl := fun W (hW : Below (w.alloc (.cells #[.slice ka kd.nodes.length kc, .int .i64 kd.root] 42)).heap.size (w.alloc (.cells #[.slice ka kd.nodes.length kc, .int .i64 kd.root] 42)) W) => clone_any ⟨kd, ka, kc⟩ W (Rd.below hko1 hW) hk.small
  simp only [DA.val] at cl
  have CL := Lib.hid cl
  have hbs : C.base ≤ w.heap.size := by have := h.hb; have := h.blk.lt; omega
  have hB3 : st.fresh = true → st.out.length < 65536 := fun hf => by have hne : st.out.length ≠ 65536 := fun e => hB ⟨hf, e⟩; omega
  have HB := Lib.hid hB3
  have hfr := hfr0
  have HFR := Lib.hid hfr
  clear cl hBi hB hB3 hfr hfr0
  generalize hfr : st.fresh = fr at *
  have HE := Lib.hid hfr
  clear hfr
  have hq : ((st.out.length : Int) == 65536 && fr) = false := by
    cases fr
    · simp
    · rw [HBI.out rfl]; rfl
  go_enter Tryz.func142, Tryz.ntmps142
  have hst1 : st.fresh = fr := HE.out
  cases fr
  · go_wp2_with fail
    refine ln.mono ?_
    rintro e w' ⟨rfl, hw'⟩
    subst hw'
    obtain ⟨m1, st1, r1, s1, hst1e, htx, hfr2⟩ : ∃ m1 st1, RM C m1 st1 (w.alloc (.cells #[.slice ka kd.nodes.length kc, .int .i64 kd.root] 42)) ∧ Stp C m w m1 (w.alloc (.cells #[.slice ka kd.nodes.length kc, .int .i64 kd.root] 42)) ∧ st1 = st ∧ st1.text = st.text ∧ st1.out ≠ [] := ⟨m, st, h1, s01, rfl, rfl, HFR.out trivial⟩
    obtain ⟨D, x, g, cp, hV1, hov1⟩ := r1.out_form (by simp [hfr2])
    have q1 := r1.blk
    have ws := writeString_any place_reader (by decide) C.rb (C.cells m1 st1) m1.bp m1.bv C.base st.text s _ q1 rfl rfl r1.bp rfl (by rw [← htx]; exact r1.buf) (by omega) (by have := r1.hb; have := q1.lt; omega)
    have lt1 := q1.lt
    go_wp2_with fail
    refine ws.mono ?_
    clear ws
    rintro e w5 ⟨rfl, bv', k5, o5, m5, n5⟩
    rw [← htx] at o5
    have r2 := r1.wrote s hs k5 o5 m5 n5 (by have o := r1.ok; exact ⟨o.sets, by rw [htx, List.length_append]; omega, o.out, o.d0, o.d1⟩)
    have c7' := r2.1.blk.cell 7
    have hlt5 := r2.1.blk.lt
    simp [RC.cells, hov1] at c7'
    have r3 := r2.1.last hV1 hov1 ((st.text.length : Int) + s.length)
    obtain ⟨u, hu, hfu, hgl⟩ := r2.1.cell_last hV1 hov1
    have hDl : (D.length : Int) ≤ 65536 := by
      have h4 := r1.ok.out
      rw [← r1.segs, hV1] at h4
      simp at h4
      omega
    clear q1 lt1 m5 n5 o5 k5
    go_upto_region 8 with fail
    go_region
    go_wp2_with fail
    go_end0
    have hd := Below.drew (Below.refl (w5.setCell ⟨g, D.length * 6 + 1, none⟩ (.int .i64 ((st.text.length : Int) + s.length))).heap.size (w5.setCell ⟨g, D.length * 6 + 1, none⟩ (.int .i64 ((st.text.length : Int) + s.length))))
    refine ⟨rfl, _, ?_, (s1.trans (r2.2.trans r3.2)).trans (Stp.of_below hd)⟩
    have := r3.1.below hd
    rw [hst1e] at this
    simpa [hst1] using this
  · have hBi := HBI.out rfl
    have hB3 := HB.out rfl
    go_wp2_with fail
    refine ln.mono ?_
    rintro e w' ⟨rfl, hw'⟩
    subst hw'
    go_upto_if 37 with fail
    generalize hW0 : w.alloc (.cells #[.slice ka kd.nodes.length kc, .int .i64 kd.root] 42) = W0 at *
    have kk0 := kk.cell 0
    have kk1 := kk.cell 1
    have hkk := kk.lt
    simp at kk0 kk1
    have hOwn : Own 45 6 SegV.cells C.base W0 (.slice vo st.out.length vc) m.V := by rw [← hov]; exact h1.out
    have hV3 : m.V.length ≤ 65536 := by omega
    have hbs0 : C.base ≤ W0.heap.size := by have := b0.size; omega
    clear ln hW0
    go_cut [] (fun wx => ∃ m1, RM C m1 { st with out := st.out ++ [⟨st.text.length, 0, st.file, pos, kd⟩], fresh := false } wx ∧ Stp C m w m1 wx)
    case first =>
      go_wp2_with fail
      go_region_law (first
        | (refine step_append_row rowSeg (by rfl) _ _ (by rfl) C.base (.slice vo st.out.length vc) m.V ⟨st.text.length, 0, st.file, pos, ⟨kd, kA, kC⟩⟩ (by rfl) (ownC.alloc _) wc.heap.size (by rfl) (Blk.new wc _ _) (by omega) (by simp; omega) (wc.heap.size + 1) (by simp) ?_; intro g cp w1 hown1 hgrow hat hlt1; have q1 := (qc.alloc (.cells #[.int .i64 st.text.length, .int .i64 0, .int .i64 st.file, .int .i64 pos, .slice kA kd.nodes.length kC, .int .i64 kd.root] 45)).mod (Mod.of_grown hgrow) (fun e => ownC.ne_blk e.symm qc (by decide) rfl); have d7 := q1.cell 7; have f7 := q1.frozen 7; have l7 := q1.lt; simp [RC.cells] at d7)
        | (go_simp; go_at_call 201; refine (CL.out _ (by exact (Below.refl _ W0).drew)).mono ?_; rintro e wc ⟨kA, kC, rfl, rkc, fkc, bkc⟩; have bc := ((Below.refl _ W0).drew).trans bkc; have ownC := hOwn.mod (Mod.of_below (S := fun _ => False) bc) (fun _ _ h => h); have qc := h1.blk.mod (Mod.of_below (S := fun _ => False) bc) (fun h => h); have e7 := qc.cell 7; have e9 := qc.cell 9; have le := qc.lt; have hwc : W0.heap.size ≤ wc.heap.size := bc.size; simp [RC.cells, hov] at e7 e9))
      all_goals
        have d8 := d8_of hst1 q1
        have f8 := q1.frozen 8
        go_wp2_with fail
        go_meet
        obtain ⟨m1, r1, r2⟩ := push_all h1 hov bc rkc fkc hown1 hgrow hat hk hB3
        rw [hVl] at r1 r2
        exact ⟨m1, r1, s01.trans r2⟩
    case rest =>
      obtain ⟨m1, st1, r1, s1, hst1e, htx, hfr2⟩ : ∃ m1 st1, RM C m1 st1 wc ∧ Stp C m w m1 wc ∧ st1 = { st with out := st.out ++ [⟨st.text.length, 0, st.file, pos, kd⟩], fresh := false } ∧ st1.text = st.text ∧ st1.out ≠ [] := by
        obtain ⟨m1, r1, s1⟩ := hcut
        exact ⟨m1, _, r1, s1, rfl, rfl, by simp⟩
      obtain ⟨D, x, g, cp, hV1, hov1⟩ := r1.out_form (by simp [hfr2])
      have q1 := r1.blk
      have ws := writeString_any place_reader (by decide) C.rb (C.cells m1 st1) m1.bp m1.bv C.base st.text s _ q1 rfl rfl r1.bp rfl (by rw [← htx]; exact r1.buf) (by omega) (by have := r1.hb; have := q1.lt; omega)
      have lt1 := q1.lt
      go_wp2_with fail
      refine ws.mono ?_
      clear ws
      rintro e w5 ⟨rfl, bv', k5, o5, m5, n5⟩
      rw [← htx] at o5
      have r2 := r1.wrote s hs k5 o5 m5 n5 (by have o := r1.ok; exact ⟨o.sets, by rw [htx, List.length_append]; omega, o.out, o.d0, o.d1⟩)
      have c7' := r2.1.blk.cell 7
      have hlt5 := r2.1.blk.lt
      simp [RC.cells, hov1] at c7'
      have r3 := r2.1.last hV1 hov1 ((st.text.length : Int) + s.length)
      obtain ⟨u, hu, hfu, hgl⟩ := r2.1.cell_last hV1 hov1
      have hDl : (D.length : Int) ≤ 65536 := by
        have h4 := r1.ok.out
        rw [← r1.segs, hV1] at h4
        simp at h4
        omega
      clear q1 lt1 m5 n5 o5 k5
      go_upto_region 8 with fail
      go_region
      go_wp2_with fail
      go_end0
      have hd := Below.drew (Below.refl (w5.setCell ⟨g, D.length * 6 + 1, none⟩ (.int .i64 ((st.text.length : Int) + s.length))).heap.size (w5.setCell ⟨g, D.length * 6 + 1, none⟩ (.int .i64 ((st.text.length : Int) + s.length))))
      refine ⟨rfl, _, ?_, (s1.trans (r2.2.trans r3.2)).trans (Stp.of_below hd)⟩
      have := r3.1.below hd
      rw [hst1e] at this
      simpa [hst1] using this
end Go.Proofs.YtpekmohnjpbkgaaGreatDoor
