/- koinelaw07.SourcePlain. -/
import Derived.Test.YtpekmohnjpbkgaaGreatDoorLsa
import Derived.Test.YtpekmohnjpbkgaaGreatDoorGroupS
namespace Go.Proofs.YtpekmohnjpbkgaaGreatDoor
open Go Go.RowKit
set_option maxHeartbeats 4000000
set_option maxRecDepth 100000
attribute [local go_sem ↓] Go.wp_at_zero Go.wp_at_succ

/-- The lines taken so far are plain and short. -/
def PlTake (L : List (List UInt8)) (i : Nat) : Prop := ∀ s ∈ L.take i, PlainL s ∧ s.length ≤ 40
theorem PlTake.succ {L : List (List UInt8)} {i : Nat} {s : List UInt8} (h : PlTake L i) (hs : L[i]? = some s) (hp : PlainL s) (hl : s.length ≤ 40) : PlTake L (i + 1) := by
  intro t ht
  rw [List.take_add_one, hs] at ht
  rcases List.mem_append.1 ht with h1 | h1
  · exact h t h1
  · simp at h1; subst h1; exact ⟨hp, hl⟩
theorem flat_bound : ∀ (l : List (List UInt8)), (∀ s ∈ l, s.length ≤ 40) → (flat l).length ≤ 41 * l.length := by
  intro l h
  induction l with
  | nil => simp [flat]
  | cons s l ih =>
    have := ih (fun t ht => h t (by simp [ht]))
    have := h s (by simp)
    simp [flat]; omega
theorem flat_take_succ {L : List (List UInt8)} {i : Nat} {s : List UInt8} (hs : L[i]? = some s) : flat (L.take (i + 1)) = flat (L.take i) ++ s ++ [10] := by
  rw [List.take_add_one, hs, flat_append]
  simp [flat]

theorem plain_call (l : List (List UInt8)) (hp : ∀ t ∈ l, PlainL t) (hlen : (flat l).length ≤ 328) (w : World) (fa : Option Addr) (fc : Nat) (hF : Rd w fa (rowCells Fl.cells [⟨plOther, [35, 101, 110, 100, 10]⟩, ⟨plRoot, flat l⟩])) :
    Calls Tryz.prog 24 #[.slice none 0 0, .slice fa 2 fc, str plRoot] w fun e w' => ∃ a cap V, e = .returned (.tuple #[.agg #[str (flat l), .slice a V.length cap], .agg #[.int .i64 0, .int .i64 0, .int .i64 0]]) ∧ V.map SegV.d = (plS (flat l)).segs ∧ SegsAt w' a V ∧ Below w.heap.size w w' := by
  have h := read_top [] [⟨plOther, [35, 101, 110, 100, 10]⟩, ⟨plRoot, flat l⟩] plRoot (by decide) (fun s hs => by cases hs) (by
    intro f hf
    simp only [List.mem_cons, List.not_mem_nil, or_false] at hf
    rcases hf with rfl | rfl
    · decide
    · exact ⟨show plRoot.length ≤ _ by decide, show (flat l).length ≤ _ by omega⟩) (show 2 ≤ _ by decide) none 0 fa fc w (Rd.nil _ _) hF
  rw [plain_read l hp (by omega)] at h
  refine h.mono ?_
  rintro e w' ⟨a, cap, V, rfl, hV, hs, -, hb⟩
  exact ⟨a, cap, V, rfl, hV, hs, hb⟩
theorem plain_sel (l : List (List UInt8)) (hlen : (flat l).length ≤ 328) (V : List SegV) (hV : V.map SegV.d = (plS (flat l)).segs) (a : Option Addr) (cap : Nat) (c : Int) (hc : 0 ≤ c) (hc1 : c < 18446744073709551616) (w : World) (hr : SegsAt w a V) :
    Calls Tryz.prog 37 #[.agg #[str (flat l), .slice a V.length cap], .int .u64 c] w fun e w' => e = .returned (str (flat l)) ∧ Below w.heap.size w w' := by
  have hl : V.length ≤ 1 := by
    have := congrArg List.length hV
    rw [List.length_map] at this
    rw [this]
    unfold plS
    split <;> simp
  have k := select7_any (flat l) V a cap c hc hc1 w (by omega) (by omega) hr
  rw [hV] at k
  have e : selectF ⟨flat l, (plS (flat l)).segs⟩ c = flat l := plain_select (text := flat l) (fun h => flat_last l (fun e => h ((flat_nil_iff l).2 e))) (by omega) c
  rw [e] at k
  exact k

theorem const_true (w : World) : Calls Tryz.prog 62 #[.bool true] w fun e w' => e = .returned (.agg #[.slice none 0 0, .int .i64 1]) ∧ Below w.heap.size w w' := by
  go_enter Tryz.func62, Tryz.ntmps62
  go_wp2_with fail
  exact bodyPost_ret (v := .agg #[.slice none 0 0, .int .i64 1]) (by simp [results, Tryz.results62, go_sem]) rfl ⟨rfl, (Below.refl _ _).alloc (Nat.le_refl _) _⟩
theorem const_same (a : Option Addr) (ca : Nat) (w : World) : Calls Tryz.prog 60 #[.agg #[.slice a 0 ca, .int .i64 1], .agg #[.slice none 0 0, .int .i64 1]] w fun r w' => r = .returned (.bool true) ∧ Below w.heap.size w w' := by
  have h := rsame_any (constD true) (constD true) a none ca 0 w (by decide) (Rd.nil _ _) (Rd.nil _ _)
  rw [decide_eq_true rfl] at h
  exact h

theorem sourcePlain_any (L : List (List UInt8)) (c : Int) (hc : 0 ≤ c) (hc1 : c < 18446744073709551616) (na : Option Addr) (nc : Nat) (w : World) (hr : Rd w na (L.map str)) :
    Calls Tryz.prog 13 #[.slice na L.length nc, .int .u64 c] w fun e w' => e = .returned (.bool true) ∧ Below w.heap.size w w' := by
  generalize hn : L.length = len at *
  have HN := Lib.hid hn
  clear hn
  go_enter Tryz.func13, Tryz.ntmps13
  go_wp2_with fail
  refine (sanity_any w).mono ?_
  rintro e w1 ⟨rfl, bel⟩
  have hr1 := hr.below bel
  clear hr
  go_wp2_with fail
  go_loopw [7, 6] (fun ci ct wr => ∃ i : Nat, i ≤ len ∧ i ≤ 8 ∧ ci = .int .i64 i ∧ ct = str (flat (L.take i)) ∧ PlTake L i ∧ wr = w1) (fun ci _ _ => len - (intOf ci).toNat)
  case atStart => exact ⟨0, Nat.zero_le _, by omega, rfl, rfl, (fun s hs => by cases hs), rfl⟩
  case round =>
    obtain ⟨i, hi, hi8, rfl, rfl, HT, rfl⟩ := hrel
    by_cases hgo : i < len ∧ i < 8
    · obtain ⟨hlt, h8⟩ := hgo
      · obtain ⟨s, hx⟩ : ∃ s, L[i]? = some s := ⟨L[i]'(by have := HN.out; omega), List.getElem?_eq_getElem _⟩
        obtain ⟨b1, o1, rfl, hb1, x0⟩ := hr1 i (str s) (by rw [List.getElem?_map, hx]; rfl)
        have i0 : (0 : Int) ≤ (i : Int) := by omega
        have i1 : (i : Int) < (len : Int) := by omega
        have i8 : (i : Int) < 8 := by omega
        by_cases h40 : 40 < s.length
        · have h40' : 40 < (s.length : Int) := by omega
          go_wp2_with fail
          go_ret
          exact ⟨rfl, bel⟩
        · have h40' : ¬ 40 < (s.length : Int) := by omega
          by_cases hh : s.head? = some 35
          · have he : s.isEmpty = false := by cases s with
              | nil => cases hh
              | cons b t => rfl
            have hC : ∀ h : 0 < (⟨s.toArray⟩ : ByteArray).size, ((((⟨s.toArray⟩ : ByteArray)[0]'h).toNat : Int) == 35) = true := by
              intro h
              cases s with
              | nil => cases hh
              | cons b t => cases hh; rfl
            have hp : 0 < (s.length : Int) := by cases s with
              | nil => cases hh
              | cons b t => simp
            go_wp2_with fail
            go_ret
            exact ⟨rfl, bel⟩
          · have he : (s.isEmpty = true ∧ True) ∨ (s.isEmpty = false ∧ 0 < (s.length : Int)) := by cases s <;> simp
            have hC : ∀ h : 0 < (⟨s.toArray⟩ : ByteArray).size, ((((⟨s.toArray⟩ : ByteArray)[0]'h).toNat : Int) == 35) = false := by
              intro h
              cases s with
              | nil => cases h
              | cons b t =>
                rw [beq_eq_false_iff_ne]
                intro e
                refine hh (congrArg some ?_)
                have e' : ((b.toNat : Nat) : Int) = 35 := e
                exact UInt8.toNat_inj.1 (by show b.toNat = 35; omega)
            have hpl : (10 : UInt8) ∉ s → PlainL s := fun h => PlainL.of h hh
            clear hh
            rcases he with ⟨he, hp⟩ | ⟨he, hp⟩
            all_goals
              go_upto_region 9 with fail
              clear hC he hp h40'
              go_wp2_with fail
              go_loopw [9] (fun ck w2 => ∃ j : Nat, j ≤ s.length ∧ ck = .int .i64 j ∧ (10 : UInt8) ∉ s.take j ∧ w2 = wr) (fun ck _ => s.length - (intOf ck).toNat)
              case atStart => exact ⟨0, Nat.zero_le _, rfl, by simp, rfl⟩
              case round =>
                obtain ⟨j, hj, rfl, HJ, rfl⟩ := hrel
                by_cases hjl : j < s.length
                · have j0 : (0 : Int) ≤ (j : Int) := by omega
                  have j1 : (j : Int) < (s.length : Int) := by omega
                  by_cases h10 : s[j]? = some 10
                  · have hE : ∀ h : j < (⟨s.toArray⟩ : ByteArray).size, ((((⟨s.toArray⟩ : ByteArray)[j]'h).toNat : Int) == 10) = true := by
                      intro h
                      have : s[j]'hjl = 10 := by
                        rw [List.getElem?_eq_getElem hjl] at h10
                        exact Option.some.inj h10
                      show ((((s.toArray)[j]'h).toNat : Int) == 10) = true
                      rw [List.getElem_toArray, this]
                      rfl
                    go_wp2_with fail
                    go_ret
                    exact ⟨rfl, bel⟩
                  · have hE : ∀ h : j < (⟨s.toArray⟩ : ByteArray).size, ((((⟨s.toArray⟩ : ByteArray)[j]'h).toNat : Int) == 10) = false := by
                      intro h
                      rw [beq_eq_false_iff_ne]
                      intro e
                      have e' : (((s[j]'hjl).toNat : Nat) : Int) = 10 := e
                      refine h10 ?_
                      rw [List.getElem?_eq_getElem hjl]
                      exact congrArg some (UInt8.toNat_inj.1 (by show (s[j]'hjl).toNat = 10; omega))
                    have HJ2 : (10 : UInt8) ∉ s.take (j + 1) := by
                      rw [List.take_add_one]
                      intro hm
                      rcases List.mem_append.1 hm with hm | hm
                      · exact HJ hm
                      · rw [List.getElem?_eq_getElem hjl] at hm h10
                        simp at hm h10
                        exact h10 hm.symm
                    clear h10
                    go_wp2_with fail
                    go_roundw
                    case rel => exact ⟨j + 1, hjl, by go_num, HJ2, trivial⟩
                    case measure => simp [intOf]; omega
                · have : j = s.length := by omega
                  subst this
                  rw [List.take_length] at HJ
                  have hfl : (flat (L.take i)).length ≤ 328 := by
                    have := flat_bound (L.take i) (fun s hs => (HT s hs).2)
                    rw [List.length_take] at this
                    omega
                  have HT2 := HT.succ hx (hpl HJ) (by omega)
                  have HF : Hid (flat (L.take i) ++ s ++ [10] = flat (L.take (i + 1))) := Lib.hid (flat_take_succ hx).symm
                  clear HT HJ hpl hx
                  go_wp2_with fail
                  rotate_left
                  all_goals first | (exfalso; omega) | skip
                  go_roundw
                  case rel => exact ⟨i + 1, hlt, by omega, by go_num, by rw [← HF.out]; simp [bytes_cat], HT2, trivial⟩
                  case measure => simp [intOf]; omega
    · have hd : (¬ (i : Int) < (len : Int)) ∨ ((i : Int) < (len : Int) ∧ ¬ (i : Int) < 8) := by omega
      have hp := fun s hs => (HT s hs).1
      have hfl : (flat (L.take i)).length ≤ 328 := by
        have := flat_bound (L.take i) (fun s hs => (HT s hs).2)
        rw [List.length_take] at this
        omega
      clear HT hgo
      generalize L.take i = l at *
      rcases hd with hd | ⟨hd, hd8⟩
      all_goals
        go_upto_region 15 with fail
        clear hd hr1
        have nb := Blk.new wr #[str plOther, str [35, 101, 110, 100, 10], str plRoot, str (flat l)] 38
        have bb := (Below.refl wr.heap.size wr).alloc (Nat.le_refl _) (.cells #[str plOther, str [35, 101, 110, 100, 10], str plRoot, str (flat l)] 38)
        have bel1 := bel.trans (bb.mono bel.size)
        go_wp2_with fail
        refine (plain_call l hp hfl _ (some ⟨wr.heap.size, 0, none⟩) 2 (Blk.rd nb (fun j u h => by rw [← Array.getElem?_toList]; exact h))).mono ?_
        rintro e w2 ⟨a, cap, V, rfl, hV, hs, b2⟩
        have bel2 := bel1.trans (b2.mono bel1.size)
        clear nb bb bel1 bel b2
        go_upto_region 16 with fail
        have p0 := (Blk.new w2 #[str (flat l), .slice a V.length cap] 29).alloc (.cells #[.int .i64 0, .int .i64 0, .int .i64 0] 32)
        have p1 := Blk.new (w2.alloc (.cells #[str (flat l), .slice a V.length cap] 29)) #[.int .i64 0, .int .i64 0, .int .i64 0] 32
        have bb := ((Below.refl w2.heap.size w2).alloc (Nat.le_refl _) (.cells #[str (flat l), .slice a V.length cap] 29)).alloc (by simp) (.cells #[.int .i64 0, .int .i64 0, .int .i64 0] 32)
        have hs2 := hs.below bb
        have bel3 := bel2.trans (bb.mono bel2.size)
        simp only [World.size_alloc] at p1
        clear hs bb bel2
        generalize ((w2.alloc (.cells #[str (flat l), .slice a V.length cap] 29)).alloc (.cells #[.int .i64 0, .int .i64 0, .int .i64 0] 32)) = W3 at *
        generalize w2.heap.size = q2 at *
        have c0 := p0.cell 0
        have c1 := p0.cell 1
        have cl := p0.lt
        have d0 := p1.cell 0
        have d1 := p1.cell 1
        have d2 := p1.cell 2
        have dl := p1.lt
        simp at c0 c1 d0 d1 d2
        go_wp2_with fail
        refine (plain_sel l hfl V hV a cap c hc hc1 W3 hs2).mono ?_
        rintro e w4 ⟨rfl, b4⟩
        have k0 := p0.mod (Mod.of_below (S := fun _ => False) b4) (fun h => h)
        have bel4 := bel3.trans (b4.mono bel3.size)
        have hs4 := hs2.below b4
        clear c0 c1 cl d0 d1 d2 dl p0 p1 b4 bel3 hs2
        have c0 := k0.cell 0
        have c1 := k0.cell 1
        have cl := k0.lt
        simp at c0 c1
        go_upto_region 18 with fail
        by_cases hl : flat l = []
        · have hl2 : l = [] := (flat_nil_iff l).1 hl
          subst hl2
          have hv : V = [] := by simpa [plS, flat] using hV
          subst hv
          go_wp2_with fail
          go_ret
          exact ⟨rfl, bel4⟩
        · have hseg : (plS (flat l)).segs = [⟨0, (flat l).length, 1, 0, constD true⟩] := by unfold plS; rw [if_neg hl]
          rw [hseg] at hV
          have hvl : V.length = 1 := by have := congrArg List.length hV; simpa using this
          rw [hvl] at c1
          obtain ⟨x, rfl⟩ : ∃ x, V = [x] := by
            match V, hvl with
            | [x], _ => exact ⟨x, rfl⟩
          obtain ⟨-, b, o, rfl, hb, x0, x1, x2, x3, x4, x5⟩ := hs4.at (i := 0) (x := x) rfl
          have hxd : x.d = ⟨0, (flat l).length, 1, 0, constD true⟩ := by simpa using hV
          obtain ⟨fr, till, file, at', ⟨d, da, dc⟩⟩ := x
          simp only [SegV.d, SegD.mk.injEq] at hxd
          obtain ⟨rfl, rfl, rfl, rfl, rfl⟩ := hxd
          have hn0 : (constD true).nodes = [] := rfl
          have hr1 : (constD true).root = 1 := rfl
          simp only [hn0, hr1, List.length_nil, Nat.zero_mul, Nat.add_zero] at x0 x1 x2 x3 x4 x5
          have e1 := fun n : Above w4 => n.cell c1
          have f1 := fun n : Above w4 => n.cell x1
          have f2 := fun n : Above w4 => n.cell x2
          have f3 := fun n : Above w4 => n.cell x3
          have f4 := fun n : Above w4 => n.cell x4
          have f5 := fun n : Above w4 => n.cell x5
          have cC := fun n : Above w4 => (const_true n.val).mono (fun _ _ h => n.call h)
          have cS := fun n : Above w4 => (const_same da dc n.val).mono (fun _ _ h => n.call h)
          have he : (flat l).isEmpty = false := by simpa using hl
          have hfl2 : ((flat l).length : Int) ≤ 328 := by omega
          clear hV hseg hvl hn0 hr1 hs4 k0 x0 x1 x2 x3 x4 x5 c0 c1 hp
          go_upto_region 20 with fail
          refine wp_region_cls (fun n : Above w4 => n.val) (Above.start w4) rfl (by kernel_rfl) (by kernel_rfl) ?_
          repeat (go_big_quiet_step (first | with_reducible exact cC _ | with_reducible exact cS _))
          refine wpQuiet_nil ?_
          intro _ hw'
          obtain ⟨nq, hw''⟩ := hw'
          subst hw''
          go_wp2_with fail
          go_ret
          exact ⟨rfl, bel4.trans (nq.property.mono bel4.size)⟩
end Go.Proofs.YtpekmohnjpbkgaaGreatDoor
