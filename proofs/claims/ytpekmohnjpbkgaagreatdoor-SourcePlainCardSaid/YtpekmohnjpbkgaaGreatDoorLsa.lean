/- koinelaw07.sanity. -/
import Derived.Test.YtpekmohnjpbkgaaGreatDoorSre
import Derived.Test.YtpekmohnjpbkgaaGreatDoorGroupP
import Derived.Test.YtpekmohnjpbkgaaGreatDoorGroupQ
import Derived.Test.YtpekmohnjpbkgaaGreatDoorGroupR
namespace Go.Proofs.YtpekmohnjpbkgaaGreatDoor
open Go Go.RowKit
set_option maxHeartbeats 4000000
set_option maxRecDepth 100000
attribute [local go_sem ↓] Go.wp_at_zero Go.wp_at_succ

theorem san_names : ∀ s ∈ saL, s.length ≤ 1099511627776 := by decide
theorem san_files : ∀ f ∈ saFiles, f.name.length ≤ 1099511627776 ∧ f.text.length ≤ 1099511627776 := by decide
def saFiles2 : List Fl := [⟨[109], saM.take 47⟩, ⟨[110], saN⟩]
theorem san_files2 : ∀ f ∈ saFiles2, f.name.length ≤ 1099511627776 ∧ f.text.length ≤ 1099511627776 := by decide

theorem san_first (w : World) (na fa : Option Addr) (nc fc : Nat) (hL : Rd w na (saL.map str)) (hF : Rd w fa (rowCells Fl.cells saFiles)) :
    Calls Tryz.prog 24 #[.slice na 2 nc, .slice fa 2 fc, str [109]] w fun e w' => ∃ a cap V, e = .returned (.tuple #[.agg #[str saT, .slice a 5 cap], .agg #[.int .i64 0, .int .i64 0, .int .i64 0]]) ∧ V.map SegV.d = saS.segs ∧ V.length = 5 ∧ SegsAt w' a V ∧ Below w.heap.size w w' := by
  have h := read_top saL saFiles [109] (by decide) san_names san_files (by decide) na nc fa fc w hL hF
  rw [san_read] at h
  refine h.mono ?_
  rintro e w' ⟨a, cap, V, rfl, hV, hs, -, hb⟩
  have hl : V.length = 5 := by
    have := congrArg List.length hV
    simpa [saS] using this
  refine ⟨a, cap, V, ?_, hV, hl, hs, hb⟩
  rw [hl]
  rfl
theorem san_second (w : World) (na fa : Option Addr) (nc fc : Nat) (hL : Rd w na (saL.map str)) (hF : Rd w fa (rowCells Fl.cells saFiles2)) :
    Calls Tryz.prog 24 #[.slice na 2 nc, .slice fa 2 fc, str [109]] w fun e w' => ∃ v, e = .returned (.tuple #[v, .agg #[.int .i64 72, .int .i64 0, .int .i64 2]]) ∧ (∃ a cap, v = .agg #[str [], .slice a 0 cap]) ∧ Below w.heap.size w w' := by
  have h := read_top saL saFiles2 [109] (by decide) san_names san_files2 (by decide) na nc fa fc w hL hF
  have e : readAll saL saFiles2 [109] = (⟨[], []⟩, ⟨72, 0, 2⟩) := san_open
  rw [e] at h
  refine h.mono ?_
  rintro e w' ⟨a, cap, V, rfl, hV, hs, -, hb⟩
  have hl : V.length = 0 := by
    have := congrArg List.length hV
    simpa using this
  exact ⟨_, rfl, ⟨a, cap, by rw [hl]⟩, hb⟩

/-- What lies in memory while the example is asked. -/
structure SanM (w : World) (q : Nat) (a : Option Addr) (cap : Nat) (V : List SegV) (mt : List UInt8) (W : World) : Prop where
  src : Blk W q #[str saT, .slice a 5 cap] 29
  m : Blk W w.heap.size #[str [109], str mt] 38
  n : Blk W (w.heap.size + 1) #[str [110], str saN] 38
  names : Blk W (w.heap.size + 2) #[str [65], str [66]] 9
  seg : SegsAt W a V
  bel : Below w.heap.size w W
theorem SanM.below {w W W' : World} {q : Nat} {a : Option Addr} {cap : Nat} {V : List SegV} {mt : List UInt8} (h : SanM w q a cap V mt W) (hb : Below W.heap.size W W') : SanM w q a cap V mt W' :=
  ⟨h.src.mod (Mod.of_below (S := fun _ => False) hb) (fun h => h), h.m.mod (Mod.of_below (S := fun _ => False) hb) (fun h => h), h.n.mod (Mod.of_below (S := fun _ => False) hb) (fun h => h), h.names.mod (Mod.of_below (S := fun _ => False) hb) (fun h => h), h.seg.below hb, h.bel.trans (hb.mono h.bel.size)⟩
section
variable {w W : World} {q : Nat} {a : Option Addr} {cap : Nat} {V : List SegV} {mt : List UInt8}
theorem SanM.local' (h : SanM w q a cap V mt W) (hV : V.map SegV.d = saS.segs) (hl : V.length = 5) (pos : Int) :
    Calls Tryz.prog 27 #[.agg #[str saT, .slice a 5 cap], .int .u64 1, .int .i64 pos] W fun e w' => e = .returned (.tuple #[.int .i64 (localF saS 1 pos).1, .bool (localF saS 1 pos).2]) ∧ Below W.heap.size W w' := by
  have k := local7_any saT V a cap 1 pos (by decide) (by decide) W (by decide) (by omega) h.seg
  rw [hl, hV] at k
  exact k
theorem SanM.global' (h : SanM w q a cap V mt W) (hV : V.map SegV.d = saS.segs) (hl : V.length = 5) :
    Calls Tryz.prog 29 #[.agg #[str saT, .slice a 5 cap], .int .u64 1, .int .i64 8] W fun e w' => e = .returned (.tuple #[.int .i64 19, .bool true]) ∧ Below W.heap.size W w' := by
  have k := global7_any saT V a cap 1 8 (by decide) (by decide) (by decide) W (by decide) (by omega) h.seg
  rw [hl, hV] at k
  have e : globalF ⟨saT, saS.segs⟩ 1 8 = (19, true) := san_global
  rw [e] at k
  exact k
theorem SanM.origin' (h : SanM w q a cap V mt W) (hV : V.map SegV.d = saS.segs) (hl : V.length = 5) :
    Calls Tryz.prog 31 #[.agg #[str saT, .slice a 5 cap], .int .i64 9] W fun e w' => e = .returned (.tuple #[.int .i64 1, .int .i64 1, .bool true]) ∧ Below W.heap.size W w' := by
  have k := origin7_any saT V a cap 9 W (by decide) (by omega) h.seg
  rw [hl, hV] at k
  have e : originF ⟨saT, saS.segs⟩ 9 = (1, 1, true) := san_origin
  rw [e] at k
  exact k
theorem SanM.select' (h : SanM w q a cap V mt W) (hV : V.map SegV.d = saS.segs) (hl : V.length = 5) :
    Calls Tryz.prog 37 #[.agg #[str saT, .slice a 5 cap], .int .u64 1] W fun e w' => e = .returned (str [111, 110, 101, 10, 116, 119, 111, 10, 102, 105, 118, 101, 10]) ∧ Below W.heap.size W w' := by
  have k := select7_any saT V a cap 1 (by decide) (by decide) W (by decide) (by omega) h.seg
  rw [hl, hV] at k
  have e : selectF ⟨saT, saS.segs⟩ 1 = [111, 110, 101, 10, 116, 119, 111, 10, 102, 105, 118, 101, 10] := san_select
  rw [e] at k
  exact k
theorem SanM.dead' (h : SanM w q a cap V mt W) (hV : V.map SegV.d = saS.segs) (hl : V.length = 5) (fa : Option Addr) (fc : Nat) (hf : Rd W fa (brCells (varD 1).nodes)) :
    Calls Tryz.prog 33 #[.agg #[str saT, .slice a 5 cap], .agg #[.slice fa 1 fc, .int .i64 2]] W fun e w' => ∃ b o lc, e = .returned (.tuple #[.slice (some ⟨b, o, none⟩) 2 lc, .int .i64 0]) ∧ b < w'.heap.size ∧ w'.cell? ⟨b, o, none⟩ = some (.int .i64 1) ∧ w'.cell? ⟨b, o + 1, none⟩ = some (.int .i64 3) ∧ Below W.heap.size W w' := by
  have k := dead7_any saT V a cap ⟨varD 1, fa, fc⟩ W (by decide) (by omega) h.seg hf
  rw [hl, hV] at k
  have e : deadF ⟨saT, saS.segs⟩ (varD 1) = ([1, 3], 0) := san_dead
  rw [e] at k
  refine k.mono ?_
  rintro e w' ⟨la, lc, rfl, hr, hb⟩
  obtain ⟨b, o, ha, hlt, c0⟩ := hr 0 _ rfl
  obtain ⟨b2, o2, ha2, _, c1⟩ := hr 1 _ rfl
  rw [ha] at ha2
  cases ha2
  exact ⟨b, o, lc, by rw [ha]; rfl, hlt, c0, c1, hb⟩
end

theorem strs_only {w : World} {q : Nat} {x y : List UInt8} {b o : Nat} {k : IntKind} {n : Int} (h : Blk w q #[str x, str y] 38) (hc : w.cell? ⟨b, o, none⟩ = some (.int k n)) : b ≠ q := by
  rintro rfl
  rw [h.cell] at hc
  match o with
  | 0 => cases hc
  | 1 => cases hc
  | o + 2 => simp at hc
theorem SegsAt.write {w : World} {q : Nat} {x y : List UInt8} {a : Option Addr} {V : List SegV} (h : SegsAt w a V) (hq : Blk w q #[str x, str y] 38) (p : Addr) (hp : p.block = q) (u : Value) : SegsAt (w.setCell p u) a V := by
  have hm := Mod.write w p u
  have e : ∀ {b o : Nat} {k : IntKind} {n : Int}, w.cell? ⟨b, o, none⟩ = some (.int k n) → ¬ (b = p.block) := fun hc => by rw [hp]; exact strs_only hq hc
  refine ⟨?_, fun z hz => ?_⟩
  · intro j v hj
    obtain ⟨b, o, ha, hlt, hc⟩ := h.rd j v hj
    cases V with
    | nil => cases hj
    | cons z V =>
      obtain ⟨-, b', o', ha', -, c0, -⟩ := h.at (i := 0) (x := z) rfl
      rw [ha] at ha'
      cases ha'
      exact ⟨b, o, ha, Nat.lt_of_lt_of_le hlt hm.size, hm.cell_of hc (e c0)⟩
  · have k := h.ok z hz
    refine Rd.mod' k hm (fun hN b o ha hlt => ?_)
    cases hNe : z.da.d.nodes with
    | nil => exact absurd hNe hN
    | cons t T =>
      obtain ⟨b', o', ha', -, c0, -⟩ := Rd.br (i := 0) k (by rw [hNe]; rfl)
      rw [ha] at ha'
      cases ha'
      exact e c0
theorem san_cut : (⟨saM.toArray⟩ : ByteArray).extract 0 47 = ⟨(saM.take 47).toArray⟩ := by rw [ext_cut]; rfl
theorem san_var (w : World) : Calls Tryz.prog 66 #[.int .i64 1] w fun e w' => ∃ va vc, e = .returned (.tuple #[.agg #[.slice va 1 vc, .int .i64 2], .int .i64 0]) ∧ Rd w' va (brCells (varD 1).nodes) ∧ Below w.heap.size w w' := by
  refine (rvar_any 1 w).mono ?_
  rintro e w' ⟨va, vc, rfl, hvr, -, hb⟩
  exact ⟨va, vc, rfl, hvr, hb⟩

theorem sanity_any (w : World) : Calls Tryz.prog 21 #[] w fun e w' => e = .returned (.bool true) ∧ Below w.heap.size w w' := by
  have g := allocs_get [.cells #[str [109], str saM] 38, .cells #[str [110], str saN] 38, .cells #[str [65], str [66]] 9, .cells #[str [109], str saM, str [110], str saN] 38] w
  have hb := allocs_below [.cells #[str [109], str saM] 38, .cells #[str [110], str saN] 38, .cells #[str [65], str [66]] 9, .cells #[str [109], str saM, str [110], str saN] 38] w
  have hsz := allocs_size [.cells #[str [109], str saM] 38, .cells #[str [110], str saN] 38, .cells #[str [65], str [66]] 9, .cells #[str [109], str saM, str [110], str saN] 38] w
  have k0 : Blk _ w.heap.size #[str [109], str saM] 38 := g 0 _ rfl
  have k1 : Blk _ (w.heap.size + 1) #[str [110], str saN] 38 := g 1 _ rfl
  have k2 : Blk _ (w.heap.size + 2) #[str [65], str [66]] 9 := g 2 _ rfl
  have k3 : Blk _ (w.heap.size + 3) #[str [109], str saM, str [110], str saN] 38 := g 3 _ rfl
  simp only [List.foldl_cons, List.foldl_nil] at k0 k1 k2 k3 hb hsz
  clear g
  go_enter Tryz.func21, Tryz.ntmps21
  go_wp2_with fail
  refine (san_first _ (some ⟨w.heap.size + 1 + 1, 0, none⟩) (some ⟨w.heap.size + 1 + 1 + 1, 0, none⟩) 2 2 (Blk.rd k2 (fun j u h => by rw [← Array.getElem?_toList]; exact h)) (Blk.rd k3 (fun j u h => by rw [← Array.getElem?_toList]; exact h))).mono ?_
  rintro e w1 ⟨a, cap, V, rfl, hV, hVl, hseg, b1⟩
  have m0 := k0.mod (Mod.of_below (S := fun _ => False) b1) (fun h => h)
  have m1 := k1.mod (Mod.of_below (S := fun _ => False) b1) (fun h => h)
  have m2 := k2.mod (Mod.of_below (S := fun _ => False) b1) (fun h => h)
  have bel1 : Below w.heap.size w w1 := hb.trans (b1.mono (by simp; omega))
  have hs1 : w.heap.size + 4 ≤ w1.heap.size := by have := b1.size; simp at this; omega
  clear k0 k1 k2 k3 hb b1 hsz
  -- what the source's box and its segments hold
  have p0 := (Blk.new w1 #[str saT, .slice a 5 cap] 29).alloc (.cells #[.int .i64 0, .int .i64 0, .int .i64 0] 32)
  have p1 := Blk.new (w1.alloc (.cells #[str saT, .slice a 5 cap] 29)) #[.int .i64 0, .int .i64 0, .int .i64 0] 32
  have bb2 : Below w1.heap.size w1 ((w1.alloc (.cells #[str saT, .slice a 5 cap] 29)).alloc (.cells #[.int .i64 0, .int .i64 0, .int .i64 0] 32)) := ((Below.refl _ _).alloc (Nat.le_refl _) _).alloc (by simp) _
  have n0 := m0.mod (Mod.of_below (S := fun _ => False) bb2) (fun h => h)
  have n1 := m1.mod (Mod.of_below (S := fun _ => False) bb2) (fun h => h)
  have n2 := m2.mod (Mod.of_below (S := fun _ => False) bb2) (fun h => h)
  have hseg2 := hseg.below bb2
  have bel2 := bel1.trans (bb2.mono bel1.size)
  simp only [World.size_alloc] at p1
  obtain ⟨x, hx⟩ : ∃ x, V[4]? = some x := ⟨V[4]'(by omega), List.getElem?_eq_getElem _⟩
  have hxd : x.at' = 57 := by
    have h1 := congrArg (fun l => l[4]?) hV
    simp only [List.getElem?_map, hx, Option.map_some] at h1
    have h2 := congrArg SegD.at' (Option.some.inj h1)
    exact h2
  obtain ⟨-, sb, so, rfl, hsb, -, -, -, x3, -, -⟩ := hseg2.at hx
  rw [hxd] at x3
  go_upto_region 5 with fail
  generalize hq1 : w1.heap.size = q1 at *
  generalize ((w1.alloc (.cells #[str saT, .slice (some ⟨sb, so, none⟩) 5 cap] 29)).alloc (.cells #[.int .i64 0, .int .i64 0, .int .i64 0] 32)) = W2 at *
  have c0 := p0.cell 0
  have c1 := p0.cell 1
  have d0 := p1.cell 0
  have d1 := p1.cell 1
  have d2 := p1.cell 2
  have cl := p0.lt
  have dl := p1.lt
  simp at c0 c1 d0 d1 d2
  have hsb2 : sb < W2.heap.size := hsb
  have S2 : SanM w q1 (some ⟨sb, so, none⟩) cap V saM W2 := ⟨p0, n0, n1, n2, hseg2, bel2⟩
  go_upto_region 7 with fail
  clear n0 n1 n2 hseg2 bel2 bb2 d0 d1 d2 dl x3 hsb hsb2 hseg m0 m1 m2 bel1 p1 p0 hq1
  go_wp2_with fail
  refine (S2.local' hV hVl 19).mono ?_
  rintro e w3 ⟨rfl, b3⟩
  rw [san_local]
  have S3 := S2.below b3
  clear b3 S2 c0 c1 cl
  have c0 := S3.src.cell 0
  have c1 := S3.src.cell 1
  have cl := S3.src.lt
  simp at c0 c1
  go_wp2_with fail
  refine (S3.global' hV hVl).mono ?_
  rintro e w4 ⟨rfl, b4⟩
  have S4 := S3.below b4
  clear b4 S3 c0 c1 cl
  have c0 := S4.src.cell 0
  have c1 := S4.src.cell 1
  have cl := S4.src.lt
  simp at c0 c1
  go_wp2_with fail
  refine (S4.local' hV hVl 8).mono ?_
  rintro e w5 ⟨rfl, b5⟩
  rw [san_local2]
  have S5 := S4.below b5
  clear b5 S4 c0 c1 cl
  have c0 := S5.src.cell 0
  have c1 := S5.src.cell 1
  have cl := S5.src.lt
  simp at c0 c1
  go_wp2_with fail
  refine (S5.origin' hV hVl).mono ?_
  rintro e w6 ⟨rfl, b6⟩
  have S6 := S5.below b6
  clear b6 S5 c0 c1 cl
  go_wp2_with fail
  refine (san_var w6).mono ?_
  rintro e w7 ⟨va, vc, rfl, hvr, b7⟩
  have S7 := S6.below b7
  clear b7 S6
  go_upto_region 12 with fail
  have p8 := Blk.new w7 #[.slice va 1 vc, .int .i64 2] 42
  have bb8 := (Below.refl w7.heap.size w7).alloc (Nat.le_refl _) (.cells #[.slice va 1 vc, .int .i64 2] 42)
  have S8 := S7.below bb8
  have hv8 := hvr.below bb8
  clear S7 hvr bb8
  generalize w7.alloc (.cells #[.slice va 1 vc, .int .i64 2] 42) = W8 at *
  generalize w7.heap.size = q7 at *
  have c0 := S8.src.cell 0
  have c1 := S8.src.cell 1
  have cl := S8.src.lt
  have d0 := p8.cell 0
  have d1 := p8.cell 1
  have dl := p8.lt
  simp at c0 c1 d0 d1
  go_wp2_with fail
  refine (S8.dead' hV hVl va vc hv8).mono ?_
  rintro e w9 ⟨b, o, lc, rfl, hlt, l0, l1, b9⟩
  have S9 := S8.below b9
  clear b9 S8 p8 hv8 c0 c1 cl d0 d1 dl
  go_upto_region 13 with fail
  have c0 := S9.m.cell 0
  have c1 := S9.m.cell 1
  have cl := S9.m.lt
  have cf := S9.m.frozen
  simp at c0 c1
  go_upto_region 14 with fail
  rw [show Value.string ((⟨saM.toArray⟩ : ByteArray).extract 0 47) = str (saM.take 47) from congrArg Value.string san_cut]
  have hm := Mod.write w9 ⟨w.heap.size, 1, none⟩ (str (saM.take 47))
  have T : SanM w q1 (some ⟨sb, so, none⟩) cap V (saM.take 47) (w9.setCell ⟨w.heap.size, 1, none⟩ (str (saM.take 47))) :=
    ⟨S9.src.mod hm (S9.src.ne S9.m (by decide)), S9.m.setCell 1 _, S9.n.mod hm (by simp), S9.names.mod hm (by simp), S9.seg.write S9.m _ rfl _, S9.bel.trans (hm.below S9.bel.size (fun k hk => by simp; omega))⟩
  have e0 := hm.cell_of l0 (strs_only S9.m l0)
  have e1 := hm.cell_of l1 (strs_only S9.m l1)
  have hlt2 := Nat.lt_of_lt_of_le hlt hm.size
  clear S9 l0 l1 hlt hm c0 c1 cl cf
  generalize w9.setCell ⟨w.heap.size, 1, none⟩ (str (saM.take 47)) = W10 at *
  have c0 := T.m.cell 0
  have c1 := T.m.cell 1
  have cl := T.m.lt
  have d0 := T.n.cell 0
  have d1 := T.n.cell 1
  have dl := T.n.lt
  simp at c0 c1 d0 d1
  go_wp2_with fail
  have nb := Blk.new W10 #[str [109], str (List.take 47 saM), str [110], str saN] 38
  have bb := (Below.refl W10.heap.size W10).alloc (Nat.le_refl _) (.cells #[str [109], str (List.take 47 saM), str [110], str saN] 38)
  have U := T.below bb
  have f0 := (Mod.of_below (S := fun _ => False) bb).cell_of e0 (fun h => h)
  have f1 := (Mod.of_below (S := fun _ => False) bb).cell_of e1 (fun h => h)
  have flt := Nat.lt_of_lt_of_le hlt2 bb.size
  clear e0 e1 hlt2 T c0 c1 cl d0 d1 dl bb
  generalize W10.alloc (.cells #[str [109], str (List.take 47 saM), str [110], str saN] 38) = W11 at *
  generalize W10.heap.size = q10 at *
  refine (san_second W11 (some ⟨w.heap.size + 1 + 1, 0, none⟩) (some ⟨q10, 0, none⟩) 2 2 (Blk.rd U.names (fun j u h => by rw [← Array.getElem?_toList]; exact h)) (Blk.rd nb (fun j u h => by rw [← Array.getElem?_toList]; exact h))).mono ?_
  rintro e w12 ⟨v, rfl, ⟨va3, vc3, rfl⟩, b12⟩
  have S12 := U.below b12
  have e0 := (Mod.of_below (S := fun _ => False) b12).cell_of f0 (fun h => h)
  have e1 := (Mod.of_below (S := fun _ => False) b12).cell_of f1 (fun h => h)
  have elt := Nat.lt_of_lt_of_le flt b12.size
  clear U nb f0 f1 flt b12
  go_upto_region 15 with fail
  have p1 := Blk.new (w12.alloc (.cells #[.string ⟨#[]⟩, .slice va3 0 vc3] 29)) #[.int .i64 72, .int .i64 0, .int .i64 2] 32
  have bb := ((Below.refl w12.heap.size w12).alloc (Nat.le_refl _) (.cells #[.string ⟨#[]⟩, .slice va3 0 vc3] 29)).alloc (by simp) (.cells #[.int .i64 72, .int .i64 0, .int .i64 2] 32)
  have S := S12.below bb
  have f0 := (Mod.of_below (S := fun _ => False) bb).cell_of e0 (fun h => h)
  have f1 := (Mod.of_below (S := fun _ => False) bb).cell_of e1 (fun h => h)
  have flt := Nat.lt_of_lt_of_le elt bb.size
  simp only [World.size_alloc] at p1
  clear e0 e1 elt S12 bb
  generalize ((w12.alloc (.cells #[.string ⟨#[]⟩, .slice va3 0 vc3] 29)).alloc (.cells #[.int .i64 72, .int .i64 0, .int .i64 2] 32)) = W13 at *
  generalize w12.heap.size = q12 at *
  have c0 := S.src.cell 0
  have c1 := S.src.cell 1
  have cl := S.src.lt
  simp at c0 c1
  go_upto_region 16 with fail
  go_wp2_with fail
  refine (S.select' hV hVl).mono ?_
  rintro e w14 ⟨rfl, b14⟩
  have k1 := p1.mod (Mod.of_below (S := fun _ => False) b14) (fun h => h)
  have S14 := S.below b14
  clear S p1 b14 c0 c1 cl f0 f1 flt
  have d0 := k1.cell 0
  have d1 := k1.cell 1
  have d2 := k1.cell 2
  have dl := k1.lt
  simp at d0 d1 d2
  go_wp2_with fail

  go_ret
  exact ⟨rfl, S14.bel⟩
end Go.Proofs.YtpekmohnjpbkgaaGreatDoor
