/- meets: is there a configuration of one set at which another one has a value? meets, Disjoint. Sources as the program judges and asks them: plain functions. Rows that the call owns, whatever their elements: append of one element. source.Check. -/
import Derived.Test.YtpekmohnjpbkgaaGreatDoorGroupD
import Derived.Laws.EntriesVeiled
import Derived.Test.YtpekmohnjpbkgaaGreatDoorGroupB
namespace Go.Proofs.YtpekmohnjpbkgaaGreatDoor
open Go Go.RowKit
set_option maxHeartbeats 1000000
set_option maxRecDepth 100000
attribute [local go_sem ↓] Go.wp_at_zero Go.wp_at_succ

def meetOp (value : Bool) : Bool → Bool → Bool → Bool := fun x y _ => x && (y == value)
def exB (A B : List Br) (value : Bool) (k : Int × Int) : Prop := ∃ c, den3 A B [] (meetOp value) (k.1, k.2, 0) c = true

section
variable {A B : List Br} {value : Bool}
theorem ex_zero {m : Int} : ¬ exB A B value (0, m) := by
  rintro ⟨c, h⟩
  simp [den3, meetOp, den_zero] at h
theorem ex_const {n m : Int} (hA : Ord A) (hd : A.Nodup) (n0 : 0 ≤ n) (n1 : n < A.length + 2) (m0 : 0 ≤ m) (m2 : m < 2) : exB A B value (n, m) ↔ n ≠ 0 ∧ decide (m = 1) = value := by
  have hc : ∀ c, den B m c = (m == 1) := den_const m0 m2
  constructor
  · rintro ⟨c, h⟩
    simp only [den3, meetOp, hc, Bool.and_eq_true, beq_iff_eq] at h
    refine ⟨?_, by rw [← h.2]; rfl⟩
    rintro rfl
    rw [den_zero] at h
    exact Bool.false_ne_true h.1
  · rintro ⟨hn, hv⟩
    by_cases h : ∃ c, den A n c = true
    · obtain ⟨c, h⟩ := h
      refine ⟨c, ?_⟩
      simp only [den3, meetOp, hc, h, Bool.true_and, beq_iff_eq]
      rw [← hv]; rfl
    · exfalso
      refine hn (den_inj' hA hd n0 (by omega) n1 (by omega) ?_)
      funext c
      rw [den_zero]
      cases hx : den A n c with
      | false => rfl
      | true => exact absurd ⟨c, hx⟩ h
theorem inR2 {n m : Int} (n0 : 0 ≤ n) (n1 : n < A.length + 2) (m0 : 0 ≤ m) (m1 : m < B.length + 2) : inR A B [] (n, m, 0) := ⟨⟨n0, n1⟩, ⟨m0, m1⟩, by simp, by simp⟩

theorem den3_free (hA : Ord A) (hB : Ord B) {k : K3} (hk : inR A B [] k) (c : Cfg) (v : Nat) (x : Bool) (hv : (v : Int) < lev3 A B [] k) : den3 A B [] (meetOp value) k (upd c v x) = den3 A B [] (meetOp value) k c := by
  have hs := lev3_spec (A := A) (B := B) (C := []) k
  obtain ⟨⟨a0, a1⟩, ⟨b0, b1⟩, c0, c1⟩ := hk
  simp only [den3, meetOp]
  rw [den_free' hA a0 a1 c v x (by omega), den_free' hB b0 b1 c v x (by omega)]

theorem ex_step (hA : Ord A) (hB : Ord B) {n m : Int} (n0 : 0 ≤ n) (n1 : n < A.length + 2) (m0 : 0 ≤ m) (m1 : m < B.length + 2) (hm : ¬ m < 2) :
    exB A B value (n, m) ↔ exB A B value ((sidesN A n (min (levelN A n) (levelN B m))).1, (sidesN B m (min (levelN A n) (levelN B m))).1) ∨ exB A B value ((sidesN A n (min (levelN A n) (levelN B m))).2, (sidesN B m (min (levelN A n) (levelN B m))).2) := by
  have hk := inR2 n0 n1 m0 m1
  have hc : isConst3 ((n, m, 0) : K3) = false := by simp [isConst3]; omega
  obtain ⟨s1, s2, s3, s4, s5, s6, s7⟩ := step3 (op := meetOp value) hA hB Ord.nil hk hc
  have hl := lev3_lt hA hB Ord.nil hk hc
  have hv : lev3 A B [] (n, m, 0) = min (levelN A n) (levelN B m) := by
    have := (level_le hB m0 m1).2
    have e : levelN [] 0 = 64 := rfl
    simp only [lev3, e]
    omega
  have hz : sidesN [] 0 (lev3 A B [] (n, m, 0)) = (0, 0) := by
    have e : levelN [] 0 = 64 := rfl
    simp only [sidesN, e]
    rw [if_neg (by omega)]
  rw [← hv]
  have el : low3 A B [] (n, m, 0) (lev3 A B [] (n, m, 0)) = ((sidesN A n (lev3 A B [] (n, m, 0))).1, (sidesN B m (lev3 A B [] (n, m, 0))).1, 0) := by simp only [low3, hz]
  have eh : high3 A B [] (n, m, 0) (lev3 A B [] (n, m, 0)) = ((sidesN A n (lev3 A B [] (n, m, 0))).2, (sidesN B m (lev3 A B [] (n, m, 0))).2, 0) := by simp only [high3, hz]
  rw [el] at s1 s5 s7
  rw [eh] at s2 s6 s7
  generalize lev3 A B [] (n, m, 0) = v at *
  have hvn : ((v.toNat : Nat) : Int) = v := by omega
  unfold exB
  constructor
  · rintro ⟨c, h⟩
    rw [s7 c] at h
    split at h
    · exact .inr ⟨c, h⟩
    · exact .inl ⟨c, h⟩
  · rintro (⟨c, h⟩ | ⟨c, h⟩)
    · refine ⟨upd c v.toNat false, ?_⟩
      rw [s7, upd_same]
      simp only [Bool.false_eq_true, if_false]
      rw [den3_free hA hB s1 c _ _ (by omega)]
      exact h
    · refine ⟨upd c v.toNat true, ?_⟩
      rw [s7, upd_same]
      simp only [if_true]
      rw [den3_free hA hB s2 c _ _ (by omega)]
      exact h
end

def seenP (L : List (Int × Int)) : List ((Int × Int) × Bool) := L.map fun b => (b, true)
theorem aget_seenP (L : List (Int × Int)) (x : Int × Int) : aget (seenP L) x = if x ∈ L then some true else none := by
  induction L with
  | nil => simp [seenP, aget]
  | cons y L ih =>
    simp only [seenP, List.map_cons, aget] at ih ⊢
    by_cases h : x = y
    · simp [h]
    · rw [if_neg h, ih]
      simp [h]
theorem aset_seenP (L : List (Int × Int)) (x : Int × Int) (h : x ∉ L) : aset (seenP L) x true = seenP (L ++ [x]) := by
  have := aset_new (m := seenP L) (k := x) (v := true) (by rw [aget_seenP, if_neg h])
  rw [this]; simp [seenP]

structure MeetW (A B : List Br) (aA aB : Option Addr) (cA cB : Nat) (rA rB : Int) (value : Bool) (kv ks ka kb kf bm : Nat) (w : World) (L : List (Int × Int)) : Prop where
  val : Blk w kv #[.bool value] 4
  sn : Blk w ks #[.map (some bm)] 245
  a : Blk w ka #[.slice aA A.length cA, .int .i64 rA] 42
  b : Blk w kb #[.slice aB B.length cB, .int .i64 rB] 42
  fn : Blk w kf #[.func (.func 172) #[] #[.pointer (some ⟨kv, 0, none⟩), .pointer (some ⟨ks, 0, none⟩), .pointer (some ⟨ka, 0, none⟩), .pointer (some ⟨kb, 0, none⟩), .pointer (some ⟨kf, 0, none⟩)]] 246
  map : MapAt t2 Value.bool w bm (seenP L)
  rdA : Rd w aA (brCells A)
  rdB : Rd w aB (brCells B)

theorem MapAt.ne_cell {K V : Type} [DecidableEq K] {kv : K → Value} {vv : V → Value} {w : World} {b k o : Nat} {m : List (K × V)} {v : Value} (h : MapAt kv vv w b m) (hc : w.cell? ⟨k, o, none⟩ = some v) : k ≠ b := by
  rintro rfl
  obtain ⟨_, es, _, hb, _⟩ := h
  simp [World.cell?, hb] at hc
theorem Rd.mod_map {K V : Type} [DecidableEq K] {kv : K → Value} {vv : V → Value} {w w' : World} {b : Nat} {m : List (K × V)} (hm : MapAt kv vv w b m) {a : Option Addr} {cs : List Value} (h : Rd w a cs) (mo : Mod (fun k => k = b) w w') : Rd w' a cs := by
  intro j u hj
  obtain ⟨k, o, ha, hlt, hc⟩ := h j u hj
  exact ⟨k, o, ha, Nat.lt_of_lt_of_le hlt mo.size, mo.cell_of hc (hm.ne_cell hc)⟩

section
variable {A B : List Br} {aA aB : Option Addr} {cA cB : Nat} {rA rB : Int} {value : Bool} {kv ks ka kb kf bm : Nat} {w w' : World} {L L' : List (Int × Int)}
theorem MeetW.mod (h : MeetW A B aA aB cA cB rA rB value kv ks ka kb kf bm w L) (hm : Mod (fun k => k = bm) w w') (hL : MapAt t2 Value.bool w' bm (seenP L')) : MeetW A B aA aB cA cB rA rB value kv ks ka kb kf bm w' L' :=
  ⟨h.val.mod hm (fun e => h.map.ne_blk h.val e.symm), h.sn.mod hm (fun e => h.map.ne_blk h.sn e.symm), h.a.mod hm (fun e => h.map.ne_blk h.a e.symm), h.b.mod hm (fun e => h.map.ne_blk h.b e.symm), h.fn.mod hm (fun e => h.map.ne_blk h.fn e.symm), hL, h.rdA.mod_map h.map hm, h.rdB.mod_map h.map hm⟩
theorem MeetW.below (h : MeetW A B aA aB cA cB rA rB value kv ks ka kb kf bm w L) (hb : Below w.heap.size w w') : MeetW A B aA aB cA cB rA rB value kv ks ka kb kf bm w' L :=
  h.mod (Mod.of_below hb) (h.map.mod (Mod.of_below (S := fun _ => False) hb) (fun h => h))
end

def MeetPost (A B : List Br) (aA aB : Option Addr) (cA cB : Nat) (rA rB : Int) (value : Bool) (kv ks ka kb kf bm : Nat) (w : World) (L : List (Int × Int)) (n m : Int) (e : Ending) (w' : World) : Prop :=
  ∃ (r : Bool) (L' : List (Int × Int)), e = .returned (.bool r) ∧ MeetW A B aA aB cA cB rA rB value kv ks ka kb kf bm w' L' ∧ Mod (fun k => k = bm) w w' ∧ (r = true ↔ exB A B value (n, m)) ∧ (r = false → ∀ p ∈ L', p ∈ L ∨ ¬ exB A B value p)

theorem level_above (N : List Br) (root n : Int) (a : Option Addr) (cap : Nat) (W : World) (hr : Rd W a (brCells N)) (hl : N.length ≤ 4096) (h1 : n < N.length + 2) (q : Above W) :
    Calls Tryz.prog 153 #[.agg #[.slice a N.length cap, .int .i64 root], .int .i64 n] q.val fun e w' => e = .returned (.int .i64 (levelN N n)) ∧ ∃ m : Above W, w' = m.val :=
  (level_any N root n a cap q.val (hr.below q.property) (by omega) h1).mono fun e w' hh => q.call hh

theorem meet_walk (A B : List Br) (oA : Ord A) (oB : Ord B) (dA : A.Nodup) (lA : A.length ≤ 4096) (lB : B.length ≤ 4096) (aA aB : Option Addr) (cA cB : Nat) (rA rB : Int) (value : Bool) (kv ks ka kb kf bm : Nat) :
    ∀ (f : Nat) (n m : Int) (L : List (Int × Int)) (w : World), MeetW A B aA aB cA cB rA rB value kv ks ka kb kf bm w L → (∀ p ∈ L, p.1 + p.2 ≤ n + m → ¬ exB A B value p) →
    0 ≤ n → n < A.length + 2 → 0 ≤ m → m < B.length + 2 → n + m < f →
    Calls Tryz.prog 172 #[.int .i64 n, .int .i64 m, .pointer (some ⟨kv, 0, none⟩), .pointer (some ⟨ks, 0, none⟩), .pointer (some ⟨ka, 0, none⟩), .pointer (some ⟨kb, 0, none⟩), .pointer (some ⟨kf, 0, none⟩)] w
      (MeetPost A B aA aB cA cB rA rB value kv ks ka kb kf bm w L n m) := by
  intro f
  induction f with
  | zero => intro n m L w _ _ h0 _ h2 _ hf; omega
  | succ f ih =>
    intro n m L w h hL n0 n1 m0 m1 hf
    by_cases hn : n = 0
    · subst hn
      go_enter Tryz.func172, Tryz.ntmps172
      go_wp2_with fail
      go_ret
      exact ⟨false, L, rfl, h, Mod.refl _ _, ⟨(fun h => by cases h), fun h => absurd h ex_zero⟩, fun _ p hp => .inl hp⟩
    · have hn' : (n == 0) = false := by simp [hn]
      have c0 := h.val.cell 0
      simp at c0
      by_cases hm2 : m < 2
      · have hex := ex_const (A := A) (B := B) (value := value) (n := n) (m := m) oA dA n0 n1 m0 hm2
        have HX := Lib.hid hex
        clear hex
        obtain rfl | rfl : m = 0 ∨ m = 1 := by omega
        · cases value
          · go_enter Tryz.func172, Tryz.ntmps172
            go_wp2_with fail
            go_ret
            exact ⟨true, L, rfl, h, Mod.refl _ _, ⟨fun _ => HX.out.2 ⟨hn, rfl⟩, fun _ => rfl⟩, fun e => by cases e⟩
          · go_enter Tryz.func172, Tryz.ntmps172
            go_wp2_with fail
            go_ret
            exact ⟨false, L, rfl, h, Mod.refl _ _, ⟨(fun e => by cases e), fun e => absurd (HX.out.1 e).2 (by decide)⟩, fun _ p hp => .inl hp⟩
        · cases value
          · go_enter Tryz.func172, Tryz.ntmps172
            go_wp2_with fail
            go_ret
            exact ⟨false, L, rfl, h, Mod.refl _ _, ⟨(fun e => by cases e), fun e => absurd (HX.out.1 e).2 (by decide)⟩, fun _ p hp => .inl hp⟩
          · go_enter Tryz.func172, Tryz.ntmps172
            go_wp2_with fail
            go_ret
            exact ⟨true, L, rfl, h, Mod.refl _ _, ⟨fun _ => HX.out.2 ⟨hn, rfl⟩, fun _ => rfl⟩, fun e => by cases e⟩
      · have hst := ex_step (value := value) oA oB n0 n1 m0 m1 hm2
        have hmp := h.map.lookup (P := Tryz.prog) Tryz.underlying245 key_t2 (.bool false) zero4 (n, m)
        rw [aget_seenP] at hmp
        simp only [t2] at hmp
        have e0 := h.sn.cell 0
        simp at e0
        have hn2 : ¬ n = 0 := hn
        have hmi : decide (m < 2) = false := by simp [hm2]
        by_cases hs : (n, m) ∈ L
        · rw [if_pos hs] at hmp
          simp only [Option.map_some, Option.getD_some] at hmp
          have hne := hL _ hs (Int.le_refl _)
          clear hs hst
          go_enter Tryz.func172, Tryz.ntmps172
          go_wp2_with fail
          go_ret
          exact ⟨false, L, rfl, h, Mod.refl _ _, ⟨(fun e => by cases e), fun e => absurd e hne⟩, fun _ p hp => .inl hp⟩
        · rw [if_neg hs] at hmp
          simp only [Option.map_none, Option.getD_none] at hmp
          have HS := Lib.hid hs
          have HST := Lib.hid hst
          have HL := Lib.hid hL
          clear hs hst hL
          go_enter Tryz.func172, Tryz.ntmps172
          go_wp2_with (at_mapUpdate; refine wpList_mapUpdate_at (by rfl) 245 _ _ _ (by rfl) 43 4 Tryz.underlying245 key_t2 bm (seenP L) (by rfl) h.map (n, m) (by rfl) true (by rfl) ?_)
          intro w5 m2 m3 m4
          rw [aset_seenP _ _ HS.out] at m2
          have h5 := h.mod m3 m2
          have M4 := Lib.hid m4
          clear m4 hmp e0 c0
          have a0 := fun q : Above w5 => q.cell (h5.a.cell 0)
          have a1 := fun q : Above w5 => q.cell (h5.a.cell 1)
          have b0 := fun q : Above w5 => q.cell (h5.b.cell 0)
          have b1 := fun q : Above w5 => q.cell (h5.b.cell 1)
          have la := level_above A rA n aA cA w5 h5.rdA lA n1
          have lb := level_above B rB m aB cB w5 h5.rdB lB m1
          have hv64 : min (levelN A n) (levelN B m) < 64 := by
            have hk := inR2 n0 n1 m0 m1
            have hc : isConst3 ((n, m, 0) : K3) = false := by simp [isConst3]; omega
            have hl := lev3_lt oA oB Ord.nil hk hc
            have e : levelN [] 0 = 64 := rfl
            simp only [lev3, e] at hl
            have := (level_le oB m0 m1).2
            omega
          go_upto_region 10 with fail
          go_cut [10] (fun c wx => c = .int .i64 (min (levelN A n) (levelN B m)) ∧ Below w5.heap.size w5 wx)
          case first =>
            by_cases hlt : levelN B m < levelN A n
            · have hmin : Hid (min (levelN A n) (levelN B m) = levelN B m) := Lib.hid (by omega)
              refine wp_region_cls (fun q : Above w5 => q.val) (Above.start w5) rfl (by kernel_rfl) (by kernel_rfl) ?_
              repeat (go_big_quiet_step (first | with_reducible exact la _ | with_reducible exact lb _))
              refine wpQuiet_nil ?_
              intro _ hw'
              obtain ⟨nq, hw''⟩ := hw'
              subst hw''
              go_wp2_with fail
              go_meet
              exact ⟨congrArg (Value.int .i64) hmin.out.symm, nq.property⟩
            · have hmin : Hid (min (levelN A n) (levelN B m) = levelN A n) := Lib.hid (by omega)
              refine wp_region_cls (fun q : Above w5 => q.val) (Above.start w5) rfl (by kernel_rfl) (by kernel_rfl) ?_
              repeat (go_big_quiet_step (first | with_reducible exact la _ | with_reducible exact lb _))
              refine wpQuiet_nil ?_
              intro _ hw'
              obtain ⟨nq, hw''⟩ := hw'
              subst hw''
              go_wp2_with fail
              go_meet
              exact ⟨congrArg (Value.int .i64) hmin.out.symm, nq.property⟩
          case rest =>
            obtain ⟨rfl, b6⟩ := hcut
            clear a0 a1 b0 b1 la lb
            generalize hv : min (levelN A n) (levelN B m) = v at *
            have h6 := h5.below b6
            have sa := sides_any A rA n v aA cA wc h6.rdA (by omega) n0 n1 hv64
            have a0 := h6.a.cell 0
            have a1 := h6.a.cell 1
            simp at a0 a1
            have HV := Lib.hid hv
            clear hv
            go_wp2_with fail
            refine sa.mono ?_
            rintro e w7 ⟨rfl, b7⟩
            have h7 := h6.below b7
            have sb := sides_any B rB m v aB cB w7 h7.rdB (by omega) m0 m1 hv64
            have g0 := h7.b.cell 0
            have g1 := h7.b.cell 1
            simp at g0 g1
            clear sa a0 a1
            go_wp2_with fail
            refine sb.mono ?_
            rintro e w8 ⟨rfl, b8⟩
            have h8 := h7.below b8
            have f0 := h8.fn.cell 0
            simp at f0
            clear sb g0 g1
            have m8 : Mod (fun k => k = bm) w w8 := m3.trans ((Mod.of_below b6).trans ((Mod.of_below b7).trans (Mod.of_below b8)))
            have hk := inR2 (A := A) (B := B) n0 n1 m0 m1
            have hc : isConst3 ((n, m, 0) : K3) = false := by simp [isConst3]; omega
            have rA' := sides_rng oA n0 n1 v hv64
            have rB' := sides_rng oB m0 m1 v hv64
            have hcall : (callFunc 172 #[]).run Tryz.prog w8 = .ok (.enter 172 #[]) w8 := by kernel_rfl
            have hstr : ((sidesN A n v).1 + (sidesN B m v).1 < n + m) ∧ ((sidesN A n v).2 + (sidesN B m v).2 < n + m) := by
              have hv := HV.out
              have h1 : levelN A n = v ∨ levelN B m = v := by omega
              rcases h1 with h1 | h1
              · have := rA'.2.2.2.2.1 h1; omega
              · have := rB'.2.2.2.2.1 h1; omega
            have cl := fun L' w' hh hL' => ih (sidesN A n v).1 (sidesN B m v).1 L' w' hh hL' rA'.1.1 rA'.1.2 rB'.1.1 rB'.1.2 (by omega)
            have ch := fun L' w' hh hL' => ih (sidesN A n v).2 (sidesN B m v).2 L' w' hh hL' rA'.2.1.1 rA'.2.1.2 rB'.2.1.1 rB'.2.1.2 (by omega)
            clear ih
            generalize (sidesN A n v).1 = n2 at *
            generalize (sidesN A n v).2 = n3 at *
            generalize (sidesN B m v).1 = m6 at *
            generalize (sidesN B m v).2 = m7 at *
            have cl1 := cl _ _ h8 (by
              intro p hp hs
              rcases List.mem_append.1 hp with hp | hp
              · exact HL.out p hp (by omega)
              · simp at hp
                subst hp
                simp only at hs
                omega)
            clear cl
            go_wp2_with fail
            refine cl1.mono ?_
            clear cl1
            rintro e w9 ⟨r, L1, rfl, h9, m9, x1, x2⟩
            have f1 := h9.fn.cell 0
            simp at f1
            cases r
            · have ch1 := ch _ _ h9 (by
                intro p hp hs
                rcases x2 rfl p hp with hp | hp
                · rcases List.mem_append.1 hp with hp | hp
                  · exact HL.out p hp (by omega)
                  · simp at hp
                    subst hp
                    simp only at hs
                    omega
                · exact hp)
              clear ch
              have X1 := Lib.hid x1
              have X2 := Lib.hid x2
              clear x1 x2
              go_wp2_with fail
              refine ch1.mono ?_
              clear ch1
              rintro e w10 ⟨r, L2, rfl, h10, m10, y1, y2⟩
              have Y1 := Lib.hid y1
              have Y2 := Lib.hid y2
              clear y1 y2
              go_wp2_with fail
              go_ret
              have hno : ¬ exB A B value (n2, m6) := fun e => by have := X1.out.2 e; cases this
              have hiff : r = true ↔ exB A B value (n, m) := by
                rw [Y1.out, HST.out]
                exact ⟨fun h => .inr h, fun h => h.resolve_left hno⟩
              refine ⟨r, L2, rfl, h10, m8.trans (m9.trans m10), hiff, fun hr p hp => ?_⟩
              rcases Y2.out hr p hp with hp | hp
              · rcases X2.out trivial p hp with hp | hp
                · rcases List.mem_append.1 hp with hp | hp
                  · exact .inl hp
                  · simp at hp
                    subst hp
                    right
                    intro e
                    have := hiff.2 e
                    rw [hr] at this
                    cases this
                · exact .inr hp
              · exact .inr hp
            · clear ch
              have X1 := Lib.hid x1
              clear x1 x2
              go_wp2_with fail
              go_ret
              exact ⟨true, L1, rfl, h9, m8.trans m9, ⟨fun _ => HST.out.2 (.inl (X1.out.1 trivial)), fun _ => rfl⟩, fun e => by cases e⟩
end Go.Proofs.YtpekmohnjpbkgaaGreatDoor

namespace Go.Proofs.YtpekmohnjpbkgaaGreatDoor
open Go Go.RowKit
set_option maxHeartbeats 1000000
set_option maxRecDepth 100000
attribute [local go_sem ↓] Go.wp_at_zero Go.wp_at_succ

def meetObjs (n : Nat) (x y : DA) (value : Bool) : List Obj :=
  [.cells #[.slice x.a x.d.nodes.length x.cap, .int .i64 x.d.root] 42, .cells #[.slice y.a y.d.nodes.length y.cap, .int .i64 y.d.root] 42, .cells #[.bool value] 4, .map #[] 0, .cells #[.map (some (n + 1 + 1 + 1))] 245,
   .cells #[.func (.func 172) #[] #[.pointer (some ⟨n + 1 + 1, 0, none⟩), .pointer (some ⟨n + 1 + 1 + 1 + 1, 0, none⟩), .pointer (some ⟨n, 0, none⟩), .pointer (some ⟨n + 1, 0, none⟩), .pointer (some ⟨n + 1 + 1 + 1 + 1 + 1, 0, none⟩)]] 246]

theorem meets_any (x y : DA) (value : Bool) (vx : Valid x.d) (vy : Valid y.d) (lx : x.d.nodes.length ≤ 4096) (ly : y.d.nodes.length ≤ 4096) (w : World) (hx : x.ok w) (hy : y.ok w) :
    Calls Tryz.prog 104 #[x.val, y.val, .bool value] w fun e w' => ∃ r : Bool, e = .returned (.bool r) ∧ (r = true ↔ ∃ c, x.d.den c = true ∧ y.d.den c = value) ∧ Below w.heap.size w w' := by
  have hmm := @run_makeMap Tryz.prog
  have hmf : ∀ (fn : Fn) (first cap : Array Value) (w : World), (Instr.makeFunc fn first cap).run Tryz.prog w = .ok (.func fn first cap) w := fun _ _ _ _ => rfl
  have g := allocs_get (meetObjs w.heap.size x y value) w
  have hb := allocs_below (meetObjs w.heap.size x y value) w
  have hsz := allocs_size (meetObjs w.heap.size x y value) w
  have h : MeetW x.d.nodes y.d.nodes x.a y.a x.cap y.cap x.d.root y.d.root value (w.heap.size + 1 + 1) (w.heap.size + 1 + 1 + 1 + 1) w.heap.size (w.heap.size + 1) (w.heap.size + 1 + 1 + 1 + 1 + 1) (w.heap.size + 1 + 1 + 1) ((meetObjs w.heap.size x y value).foldl World.alloc w) [] :=
    ⟨g 2 _ rfl, g 4 _ rfl, g 0 _ rfl, g 1 _ rfl, g 5 _ rfl, ⟨by simp [seenP], #[], 0, g 3 _ rfl, rfl, rfl⟩, hx.below hb, hy.below hb⟩
  have wk := meet_walk x.d.nodes y.d.nodes vx.ord vy.ord vx.nodup lx ly x.a y.a x.cap y.cap x.d.root y.d.root value _ _ _ _ _ _ ((x.d.root + y.d.root).toNat + 1) x.d.root y.d.root [] _ h (by intro p hp; cases hp) vx.r0 vx.r1 vy.r0 vy.r1 (by omega)
  have hex : exB x.d.nodes y.d.nodes value (x.d.root, y.d.root) ↔ ∃ c, x.d.den c = true ∧ y.d.den c = value := by
    simp only [exB, den3, meetOp, Dg.den, Bool.and_eq_true, beq_iff_eq]
  have HEX := Lib.hid hex
  clear hex
  obtain ⟨⟨xn, xr⟩, xa, xc⟩ := x
  obtain ⟨⟨yn, yr⟩, ya, yc⟩ := y
  simp only [DA.val, DA.ok] at *
  have a1 := h.a.cell 1
  have b1 := h.b.cell 1
  have f1 := h.fn.cell 0
  simp at a1 b1 f1
  generalize hos : (meetObjs w.heap.size ⟨⟨xn, xr⟩, xa, xc⟩ ⟨⟨yn, yr⟩, ya, yc⟩ value).foldl World.alloc w = W6 at *
  simp only [meetObjs, List.foldl_cons, List.foldl_nil, List.length_cons, List.length_nil] at hos hsz
  have HO := Lib.hid hos
  clear hos g
  go_enter Tryz.func104, Tryz.ntmps104
  go_upto_region 4 with fail
  rw [HO.out]
  clear HO
  go_wp2_with fail
  refine wk.mono ?_
  clear wk
  rintro e w7 ⟨r, L1, rfl, h7, m7, x1, -⟩
  have X1 := Lib.hid x1
  clear x1
  go_wp2_with fail
  go_ret
  refine ⟨r, rfl, X1.out.trans HEX.out, ?_⟩
  exact Mod.below (S := fun k => w.heap.size ≤ k) ((Mod.of_below hb).trans' m7 (fun _ _ h => h) (fun i _ e => by omega)) (Nat.le_refl _) (fun k hk h => by omega)

theorem disjoint_any (x y : DA) (w : World) (hx : x.ok w) (hy : y.ok w) :
    Calls Tryz.prog 53 #[x.val, y.val] w fun e w' => ∃ r : Bool, e = .returned (.bool r) ∧ (r = true ↔ chks [x.d, y.d] = 0 ∧ ∀ c, x.d.den c = true → y.d.den c = false) ∧ Below w.heap.size w w' := by
  have c0 := Blk.new w #[.slice x.a x.d.nodes.length x.cap, .int .i64 x.d.root] 42
  have c1 := Blk.new (w.alloc (.cells #[.slice x.a x.d.nodes.length x.cap, .int .i64 x.d.root] 42)) #[.slice y.a y.d.nodes.length y.cap, .int .i64 y.d.root] 42
  have c2 := Blk.new ((w.alloc (.cells #[.slice x.a x.d.nodes.length x.cap, .int .i64 x.d.root] 42)).alloc (.cells #[.slice y.a y.d.nodes.length y.cap, .int .i64 y.d.root] 42)) #[.slice x.a x.d.nodes.length x.cap, .int .i64 x.d.root, .slice y.a y.d.nodes.length y.cap, .int .i64 y.d.root] 42
  have c0' := (c0.alloc (.cells #[.slice y.a y.d.nodes.length y.cap, .int .i64 y.d.root] 42)).alloc (.cells #[.slice x.a x.d.nodes.length x.cap, .int .i64 x.d.root, .slice y.a y.d.nodes.length y.cap, .int .i64 y.d.root] 42)
  have c1' := c1.alloc (.cells #[.slice x.a x.d.nodes.length x.cap, .int .i64 x.d.root, .slice y.a y.d.nodes.length y.cap, .int .i64 y.d.root] 42)
  have hb : Below w.heap.size w (((w.alloc (.cells #[.slice x.a x.d.nodes.length x.cap, .int .i64 x.d.root] 42)).alloc (.cells #[.slice y.a y.d.nodes.length y.cap, .int .i64 y.d.root] 42)).alloc (.cells #[.slice x.a x.d.nodes.length x.cap, .int .i64 x.d.root, .slice y.a y.d.nodes.length y.cap, .int .i64 y.d.root] 42)) :=
    Mod.below (S := fun k => w.heap.size ≤ k) ((((Mod.refl _ _).alloc _).alloc _).alloc _) (Nat.le_refl _) (fun k hk h => by omega)
  simp only [World.size_alloc] at c0' c1' c2
  have ck := checks_any [x, y] (some ⟨w.heap.size + 1 + 1, 0, none⟩) 2 _ (rd_two c2) (by
    intro z hz
    simp at hz
    rcases hz with rfl | rfl
    · exact hx.below hb
    · exact hy.below hb) (by simp)
  have rx := hx.below hb
  have ry := hy.below hb
  clear c0 c1 c2
  simp only [List.map_cons, List.map_nil, List.length_cons, List.length_nil] at ck
  have mm := fun w' hx hy (hq : chks [x.d, y.d] = 0) => meets_any x y true (chk_zero (chks_two hq).1).1 (chk_zero (chks_two hq).2).1 (chk_zero (chks_two hq).1).2 (chk_zero (chks_two hq).2).2 w' hx hy
  obtain ⟨⟨xn, xr⟩, xa, xc⟩ := x
  obtain ⟨⟨yn, yr⟩, ya, yc⟩ := y
  simp only [DA.val, DA.ok] at *
  have hsz : w.heap.size + 1 + 1 + 1 ≤ (((w.alloc (.cells #[.slice xa xn.length xc, .int .i64 xr] 42)).alloc (.cells #[.slice ya yn.length yc, .int .i64 yr] 42)).alloc (.cells #[.slice xa xn.length xc, .int .i64 xr, .slice ya yn.length yc, .int .i64 yr] 42)).heap.size := by simp
  by_cases hq : chks [⟨xn, xr⟩, ⟨yn, yr⟩] = 0
  · have MM := fun w' hx hy => mm w' hx hy hq
    clear mm
    have HQ := Lib.hid hq
    rw [hq] at ck
    clear hq
    go_enter Tryz.func53, Tryz.ntmps53
    go_wp2_with fail
    refine ck.mono ?_
    clear ck
    rintro e w2 ⟨rfl, b2⟩
    have d0 := c0'.mod (Mod.of_below (S := fun _ => False) b2) (fun h => h)
    have d1 := c1'.mod (Mod.of_below (S := fun _ => False) b2) (fun h => h)
    have e0 := d0.cell 0
    have e1 := d0.cell 1
    have e2 := d1.cell 0
    have e3 := d1.cell 1
    simp at e0 e1 e2 e3
    have MM2 := MM w2 (rx.below b2) (ry.below b2)
    clear MM
    have bel : Below w.heap.size w w2 := hb.trans (b2.mono (by omega))
    clear hb b2 hsz
    go_wp2_with fail
    refine MM2.mono ?_
    clear MM2
    rintro e w3 ⟨r, rfl, hr, b3⟩
    have HR := Lib.hid hr
    clear hr
    go_wp2_with fail
    go_ret
    refine ⟨!r, rfl, ?_, bel.trans (b3.mono bel.size)⟩
    rw [HQ.out]
    have hr := HR.out
    simp only [Dg.den] at hr ⊢
    cases r
    · refine ⟨fun _ => ⟨trivial, fun c hc => ?_⟩, fun _ => rfl⟩
      cases hd : den yn yr c with
      | false => rfl
      | true => exact absurd (hr.2 ⟨c, hc, hd⟩) (by decide)
    · refine ⟨fun h => (by cases h), fun h => ?_⟩
      obtain ⟨c, h1, h2⟩ := hr.1 rfl
      rw [h.2 c h1] at h2
      cases h2
  · have hq' : (chks [⟨xn, xr⟩, ⟨yn, yr⟩] == 0) = false := by rw [beq_eq_false_iff_ne]; exact hq
    have HQ := Lib.hid hq
    clear hq mm
    go_enter Tryz.func53, Tryz.ntmps53
    go_wp2_with fail
    refine ck.mono ?_
    clear ck
    rintro e w2 ⟨rfl, b2⟩
    go_wp2_with fail
    go_ret
    exact ⟨false, rfl, ⟨(fun h => by cases h), fun h => absurd h.1 HQ.out⟩, hb.trans (b2.mono (by omega))⟩
end Go.Proofs.YtpekmohnjpbkgaaGreatDoor

namespace Go.Proofs.YtpekmohnjpbkgaaGreatDoor
open Go Go.RowKit

structure SegD where
  fr : Int
  till : Int
  file : Int
  at' : Int
  d : Dg
structure SrcD where
  text : List UInt8
  segs : List SegD

noncomputable def segBad (text : List UInt8) (pos : Int) (x : SegD) : Bool :=
  x.fr != pos || (decide (x.till ≤ pos) || (decide ((text.length : Int) < x.till) || (decide (text[(x.till - 1).toNat]? ≠ some 10) || (chk x.d != 0 || (decide (x.file < 0) || (decide (x.at' < 0) || decide (1048576 - (x.till - x.fr) < x.at')))))))
noncomputable def chkSegs (text : List UInt8) : List SegD → Int → Int
  | [], pos => if pos < text.length then 70 else 0
  | x :: l, pos => if segBad text pos x = true then 70 else chkSegs text l x.till
noncomputable def chkS (s : SrcD) : Int := if 1048576 < s.text.length ∨ 65536 < s.segs.length then 2 else chkSegs s.text s.segs 0

noncomputable def selF (s : SrcD) (c : Int) : List SegD := s.segs.filter fun x => holdsB x.d c
def cutB (text : List UInt8) (x : SegD) : List UInt8 := (text.drop x.fr.toNat).take (x.till - x.fr).toNat
noncomputable def selectF (s : SrcD) (c : Int) : List UInt8 := if chkS s ≠ 0 then [] else (selF s c).flatMap (cutB s.text)

def localG (len : Int) (pos : Int) : List SegD → Int → Int × Bool
  | [], before => if pos ≠ len then (0, false) else (before, true)
  | x :: l, before => if x.fr ≤ pos ∧ pos < x.till then (before + pos - x.fr, true) else localG len pos l (before + (x.till - x.fr))
noncomputable def localF (s : SrcD) (c pos : Int) : Int × Bool := if chkS s ≠ 0 then (0, false) else localG s.text.length pos (selF s c) 0

def globalG (len : Int) : List SegD → Int → Int × Bool
  | [], pos => if 0 < pos then (0, false) else (len, true)
  | x :: l, pos => if x.till - x.fr ≤ pos then globalG len l (pos - (x.till - x.fr)) else (x.fr + pos, true)
noncomputable def globalF (s : SrcD) (c pos : Int) : Int × Bool := if chkS s ≠ 0 ∨ pos < 0 then (0, false) else globalG s.text.length (selF s c) pos

def originG (pos : Int) : List SegD → Int × Int × Bool
  | [] => (0, 0, false)
  | x :: l => if pos < x.till then (x.file, x.at' + pos - x.fr, true) else originG pos l
noncomputable def originF (s : SrcD) (pos : Int) : Int × Int × Bool := if chkS s ≠ 0 ∨ pos < 0 ∨ (s.text.length : Int) ≤ pos then (0, 0, false) else originG pos s.segs

open Classical in
noncomputable def disjB (x y : Dg) : Bool := decide (chks [x, y] = 0 ∧ ∀ c, x.den c = true → y.den c = false)
noncomputable def deadG (fam : Dg) : List SegD → Int → List Int
  | [], _ => []
  | x :: l, i => if disjB x.d fam = true then i :: deadG fam l (i + 1) else deadG fam l (i + 1)
noncomputable def deadF (s : SrcD) (fam : Dg) : List Int × Int := if chkS s ≠ 0 then ([], chkS s) else if chk fam ≠ 0 then ([], 20) else (deadG fam s.segs 0, 0)

/-- In a valid source the segments follow one another. -/
structure SegsOk (text : List UInt8) (l : List SegD) (pos : Int) : Prop where
  len : chkSegs text l pos = 0
theorem segBad_no {text : List UInt8} {pos : Int} {x : SegD} (h : segBad text pos x = false) :
    x.fr = pos ∧ pos < x.till ∧ x.till ≤ text.length ∧ text[(x.till - 1).toNat]? = some 10 ∧ chk x.d = 0 ∧ 0 ≤ x.file ∧ 0 ≤ x.at' ∧ x.at' ≤ 1048576 - (x.till - x.fr) := by
  unfold segBad at h
  simp only [Bool.or_eq_false_iff, bne_eq_false_iff_eq, decide_eq_false_iff_not, Decidable.not_not] at h
  obtain ⟨h1, h2, h3, h4, h5, h6, h7, h8⟩ := h
  exact ⟨h1, by omega, by omega, h4, h5, by omega, by omega, by omega⟩
theorem chkSegs_cons {text : List UInt8} {pos : Int} {x : SegD} {l : List SegD} (h : chkSegs text (x :: l) pos = 0) : segBad text pos x = false ∧ chkSegs text l x.till = 0 := by
  simp only [chkSegs] at h
  cases hb : segBad text pos x with
  | true => rw [hb] at h; simp at h
  | false => rw [hb] at h; exact ⟨rfl, by simpa using h⟩
end Go.Proofs.YtpekmohnjpbkgaaGreatDoor

namespace Go.Proofs.YtpekmohnjpbkgaaGreatDoor
open Go Go.RowKit

/-- How elements of α lie in a slice of type T with elements of type E: c cells each. -/
structure RowTy {α : Type} (T E : TypeId) (c : Nat) (enc : α → List Value) : Prop where
  under : Tryz.prog.underlying T = some (.slice E)
  info : ∃ z bts, (Tryz.prog.info? E).map (fun i => (i.zero, i.size, i.bytes)) = some (some z, c, bts) ∧ z.cells.size = c ∧ bts ≤ 120
  pos : 0 < c
  len : ∀ x, (enc x).length = c
  one : ∀ x, ∀ u ∈ enc x, u.oneCell' = true

section
variable {α : Type} {T E : TypeId} {c : Nat} {enc : α → List Value}

def rowCells (enc : α → List Value) (L : List α) : List Value := L.flatMap enc

theorem rowCells_get (hlen : ∀ x, (enc x).length = c) (L : List α) (i k : Nat) (hk : k < c) : (rowCells enc L)[i * c + k]? = (L[i]?).bind fun x => (enc x)[k]? := by
  unfold rowCells
  induction L generalizing i with
  | nil => simp
  | cons x l ih =>
    rw [List.flatMap_cons]
    cases i with
    | zero => simp [List.getElem?_append_left (show k < (enc x).length by rw [hlen]; exact hk)]
    | succ i =>
      have e : (i + 1) * c = i * c + c := by rw [Nat.add_mul, Nat.one_mul]
      rw [List.getElem?_append_right (by rw [hlen, e]; omega), hlen, show (i + 1) * c + k - c = i * c + k by omega, ih]
      simp
theorem rowCells_append (L M : List α) : rowCells enc (L ++ M) = rowCells enc L ++ rowCells enc M := by simp [rowCells]

/-- A cell of an element of a list that is read. -/
theorem Rd.elem {w : World} {a : Option Addr} {L : List α} (h : Rd w a (rowCells enc L)) (hlen : ∀ x, (enc x).length = c) (hc : 0 < c) {i : Nat} {x : α} (hi : L[i]? = some x) :
    ∃ b o, a = some ⟨b, o, none⟩ ∧ b < w.heap.size ∧ ∀ k, k < c → w.cell? ⟨b, o + i * c + k, none⟩ = (enc x)[k]? := by
  have key : ∀ k, k < c → ∃ u, (rowCells enc L)[i * c + k]? = some u ∧ (enc x)[k]? = some u := by
    intro k hk
    have h1 := rowCells_get hlen L i k hk
    rw [hi] at h1
    have h2 : (enc x)[k]? = some ((enc x)[k]'(by rw [hlen]; exact hk)) := List.getElem?_eq_getElem _
    exact ⟨_, h1.trans h2, h2⟩
  obtain ⟨u0, g0, -⟩ := key 0 hc
  obtain ⟨b, o, ha, hlt, _⟩ := h _ _ g0
  refine ⟨b, o, ha, hlt, fun k hk => ?_⟩
  obtain ⟨u, g1, g2⟩ := key k hk
  obtain ⟨b1, o1, ha1, _, hc1⟩ := h _ _ g1
  rw [ha] at ha1
  cases ha1
  rw [g2, Nat.add_assoc]
  exact hc1

/-- v is a row that the call owns, in a block from base on. -/
def Own (E : TypeId) (c : Nat) (enc : α → List Value) (base : Nat) (w : World) (v : Value) (L : List α) : Prop := w.ownsRow base E c v L.length (rowCells enc L)

theorem Own.nil (base : Nat) (w : World) : Own E c enc base w (.slice none 0 0) [] := World.ownsRow_nil _ _ _ _
theorem Own.form {base : Nat} {w : World} {v : Value} {L : List α} (h : Own E c enc base w v L) : ∃ a cap, v = .slice a L.length cap := by
  rcases h.2 with ⟨h1, h2⟩ | ⟨g, cap, _, hv, _⟩
  · exact ⟨none, 0, by rw [h1, h2]⟩
  · exact ⟨_, cap, hv⟩
theorem Own.rd {base : Nat} {w : World} {a : Option Addr} {cap : Nat} {L : List α} (h : Own E c enc base w (.slice a L.length cap) L) : Rd w a (rowCells enc L) := by
  intro j u hj
  rcases h.2 with ⟨h1, h2⟩ | ⟨g, cap', cur, hv, hg, hb, _, _, _, ht⟩
  · rw [List.length_eq_zero_iff] at h2
    subst h2
    simp [rowCells] at hj
  · have hc := World.ownsRow.cells (g := g) h (by rw [hv]; rfl) j u hj
    cases hv
    have hadd : (⟨g, 0, none⟩ : Addr).add j = ⟨g, j, none⟩ := by unfold Addr.add; split <;> simp_all
    rw [hadd] at hc
    exact ⟨g, 0, rfl, (Array.getElem?_eq_some_iff.1 hb).1, by rw [Nat.zero_add]; exact hc⟩
theorem Own.block {base : Nat} {w w' : World} {v : Value} {L : List α} (h : Own E c enc base w v L) (hb : ∀ g, v.ownBlock = some g → g < w.heap.size → w'.heap[g]? = w.heap[g]?) : Own E c enc base w' v L := by
  obtain ⟨h1, h2⟩ := h
  refine ⟨h1, ?_⟩
  rcases h2 with h2 | ⟨g, cap, cur, hv, hg, hh, r⟩
  · exact Or.inl h2
  · exact Or.inr ⟨g, cap, cur, hv, hg, by rw [hb g (by rw [hv]; rfl) (Array.getElem?_eq_some_iff.1 hh).1]; exact hh, r⟩
theorem Own.mod {S : Nat → Prop} {base : Nat} {w w' : World} {v : Value} {L : List α} (h : Own E c enc base w v L) (hm : Mod S w w') (hs : ∀ g, v.ownBlock = some g → ¬ S g) : Own E c enc base w' v L :=
  h.block fun g hg hlt => hm.block g hlt (hs g hg)
theorem Own.alloc {base : Nat} {w : World} {v : Value} {L : List α} (h : Own E c enc base w v L) (o : Obj) : Own E c enc base (w.alloc o) v L :=
  h.mod (Mod.of_below (S := fun _ => False) ((Below.refl _ _).alloc (Nat.le_refl _) o)) (fun _ _ h => h)
theorem Own.drew {base : Nat} {w : World} {v : Value} {L : List α} (h : Own E c enc base w v L) : Own E c enc base w.drew v L := h
theorem Own.drewN {base : Nat} {w : World} {v : Value} {L : List α} (h : Own E c enc base w v L) (n : Nat) : Own E c enc base (w.drewN n) v L := h
theorem Own.setCell {base : Nat} {w : World} {v : Value} {L : List α} (h : Own E c enc base w v L) {p : Addr} (hp : ∀ g, v.ownBlock = some g → g ≠ p.block) (u : Value) : Own E c enc base (w.setCell p u) v L := h.mod (Mod.write w p u) hp
theorem Own.lt {base : Nat} {w : World} {v : Value} {L : List α} (h : Own E c enc base w v L) {g : Nat} (hg : v.ownBlock = some g) : base ≤ g ∧ g < w.heap.size := World.ownsRow.lt h g hg
theorem Own.ne_blk {base : Nat} {w : World} {v : Value} {L : List α} (h : Own E c enc base w v L) {g k : Nat} (hg : v.ownBlock = some g) {cs : Array Value} {e : TypeId} (h' : Blk w k cs e) (he : e ≠ E) : g ≠ k := by
  rintro rfl
  rcases h.2 with ⟨h1, _⟩ | ⟨g', cap, cur, hv, _, hh, _⟩
  · rw [h1] at hg; cases hg
  · rw [hv] at hg
    cases hg
    unfold Blk at h'
    rw [hh] at h'
    simp at h'
    exact he h'.2.symm
theorem Own.ne_map {K V : Type} [DecidableEq K] {kv : K → Value} {vv : V → Value} {m : List (K × V)} {base : Nat} {w : World} {v : Value} {L : List α} (h : Own E c enc base w v L) {g k : Nat} (hg : v.ownBlock = some g) (h' : MapAt kv vv w k m) : g ≠ k := by
  rintro rfl
  rcases h.2 with ⟨h1, _⟩ | ⟨g', cap, cur, hv, _, hh, _⟩
  · rw [h1] at hg; cases hg
  · rw [hv] at hg
    cases hg
    obtain ⟨_, es, cc, hb, _⟩ := h'
    rw [hb] at hh
    cases hh

variable {w : World}
/-- 'append(row, x)' in a region that draws its order. -/
theorem step_append_row (R : RowTy T E c enc) {ops : Array Oper} {o : Oper} {a : Act} {K : Act → World → Prop} {Q : Exit → Act → World → Prop} {G : Prop} (hgd : o.guard = none) (s x : Operand)
    (ho : o.op = .call { callee := .builtin .append, args := #[s, x], argTypes := #[T, T] })
    (base : Nat) (v : Value) (L : List α) (b : α) (hs : a.eval s = v) (hown : Own E c enc base w v L)
    (B : Nat) (hx : a.eval x = .slice (some ⟨B, 0, none⟩) 1 1) (hnews : Blk w B (enc b).toArray E)
    (hL : L.length ≤ 1099511627775) (hbase : base ≤ w.heap.size) (H : Nat) (hH : w.heap.size = H)
    (h : ∀ g cap w', Own E c enc base w' (.slice (some ⟨g, 0, none⟩) (L.length + 1) cap) (L ++ [b]) → w.grownBy w' v.ownBlock → (v.ownBlock = some g ∨ g = H) → g < w'.heap.size → K (a.put o.dst (.slice (some ⟨g, 0, none⟩) (L.length + 1) cap)) w') :
    if Region.wanted o (yielded ops a.tmps) = true then Oper.wp Tryz.prog o a w K Q else G := by
  obtain ⟨z, bts, hz, hzc, hbt⟩ := R.info
  obtain ⟨i, hi, hz0, hz1, hz2⟩ := info_parts hz
  have hmul : (L.length + 1) * bts ≤ 1099511627776 * 120 := Nat.mul_le_mul (by omega) hbt
  refine step_append_lies w hgd s x T ho base E i z c bts R.under hi hz0 hz1 hz2 hzc R.pos v L.length (rowCells enc L) hs hown ⟨B, 0, none⟩ 1 1 (enc b) hx (by rw [R.len, Nat.one_mul]) (World.news_of_block hnews) (R.one b) (by omega) (by unfold maxLen; omega) (by omega) hbase H hH ?_
  intro g cap w' h1
  refine h g cap w' ?_
  unfold Own
  have e1 : rowCells enc L ++ enc b = rowCells enc (L ++ [b]) := by simp [rowCells]
  rw [e1] at h1
  simpa using h1

theorem wpList_append_row (R : RowTy T E c enc) {ops : Array Oper} {rest : List Oper} {o : Oper} {a : Act} {Q : Exit → Act → World → Prop} (hgd : o.guard = none) (s x : Operand)
    (ho : o.op = .call { callee := .builtin .append, args := #[s, x], argTypes := #[T, T] })
    (base : Nat) (v : Value) (L : List α) (b : α) (hs : a.eval s = v) (hown : Own E c enc base w v L)
    (B : Nat) (hx : a.eval x = .slice (some ⟨B, 0, none⟩) 1 1) (hnews : Blk w B (enc b).toArray E)
    (hL : L.length ≤ 1099511627775) (hbase : base ≤ w.heap.size) (H : Nat) (hH : w.heap.size = H)
    (h : ∀ g cap w', Own E c enc base w' (.slice (some ⟨g, 0, none⟩) (L.length + 1) cap) (L ++ [b]) → w.grownBy w' v.ownBlock → (v.ownBlock = some g ∨ g = H) → g < w'.heap.size → wpList Tryz.prog ops Q rest (a.put o.dst (.slice (some ⟨g, 0, none⟩) (L.length + 1) cap)) w') :
    wpList Tryz.prog ops Q (o :: rest) a w := by
  obtain ⟨z, bts, hz, hzc, hbt⟩ := R.info
  obtain ⟨i, hi, hz0, hz1, hz2⟩ := info_parts hz
  have hmul : (L.length + 1) * bts ≤ 1099511627776 * 120 := Nat.mul_le_mul (by omega) hbt
  refine wpList_append_lies w hgd s x T ho base E i z c bts R.under hi hz0 hz1 hz2 hzc R.pos v L.length (rowCells enc L) hs hown ⟨B, 0, none⟩ 1 1 (enc b) hx (by rw [R.len, Nat.one_mul]) (World.news_of_block hnews) (R.one b) (by omega) (by unfold maxLen; omega) (by omega) hbase H hH ?_
  intro g cap w' h1
  refine h g cap w' ?_
  unfold Own
  have e1 : rowCells enc L ++ enc b = rowCells enc (L ++ [b]) := by simp [rowCells]
  rw [e1] at h1
  simpa using h1
end

/-- A string of bytes. -/
abbrev str (l : List UInt8) : Value := .string ⟨l.toArray⟩

/-- A node of a formula. -/
structure FN where
  op : Int
  var : Int
  a : Int
  b : Int
  deriving DecidableEq, Inhabited
def FN.cells (n : FN) : List Value := [.int .i64 n.op, .int .i64 n.var, .int .i64 n.a, .int .i64 n.b]
theorem rowFN : RowTy 113 309 4 FN.cells where
  under := Tryz.underlying113
  info := ⟨.agg #[.int .i64 0, .int .i64 0, .int .i64 0, .int .i64 0], 32, by kernel_rfl, rfl, by omega⟩
  pos := by omega
  len := fun _ => rfl
  one := fun x u hu => by simp [FN.cells] at hu; rcases hu with rfl | rfl | rfl | rfl <;> rfl
end Go.Proofs.YtpekmohnjpbkgaaGreatDoor

namespace Go.Proofs.YtpekmohnjpbkgaaGreatDoor
open Go Go.RowKit
set_option maxHeartbeats 1000000
set_option maxRecDepth 100000
attribute [local go_sem ↓] Go.wp_at_zero Go.wp_at_succ

/-- A segment in memory. -/
structure SegV where
  fr : Int
  till : Int
  file : Int
  at' : Int
  da : DA
def SegV.d (x : SegV) : SegD := ⟨x.fr, x.till, x.file, x.at', x.da.d⟩
def SegV.cells (x : SegV) : List Value := [.int .i64 x.fr, .int .i64 x.till, .int .i64 x.file, .int .i64 x.at', .slice x.da.a x.da.d.nodes.length x.da.cap, .int .i64 x.da.d.root]
theorem rowSeg : RowTy 27 45 6 SegV.cells where
  under := Tryz.underlying27
  info := ⟨.agg #[.int .i64 0, .int .i64 0, .int .i64 0, .int .i64 0, .slice none 0 0, .int .i64 0], 64, by kernel_rfl, rfl, by omega⟩
  pos := by omega
  len := fun _ => rfl
  one := fun x u hu => by simp [SegV.cells] at hu; rcases hu with rfl | rfl | rfl | rfl | rfl | rfl <;> rfl

/-- The segments of a source that is handed in. -/
structure SegsAt (w : World) (a : Option Addr) (V : List SegV) : Prop where
  rd : Rd w a (rowCells SegV.cells V)
  ok : ∀ x ∈ V, x.da.ok w
theorem SegsAt.below {w w' : World} {a : Option Addr} {V : List SegV} (h : SegsAt w a V) (hb : Below w.heap.size w w') : SegsAt w' a V :=
  ⟨h.rd.below hb, fun x hx => (h.ok x hx).below hb⟩
theorem SegsAt.at {w : World} {a : Option Addr} {V : List SegV} (h : SegsAt w a V) {i : Nat} {x : SegV} (hx : V[i]? = some x) :
    x.da.ok w ∧ ∃ b o, a = some ⟨b, o, none⟩ ∧ b < w.heap.size ∧ w.cell? ⟨b, o + i * 6, none⟩ = some (.int .i64 x.fr) ∧ w.cell? ⟨b, o + i * 6 + 1, none⟩ = some (.int .i64 x.till) ∧ w.cell? ⟨b, o + i * 6 + 2, none⟩ = some (.int .i64 x.file) ∧
      w.cell? ⟨b, o + i * 6 + 3, none⟩ = some (.int .i64 x.at') ∧ w.cell? ⟨b, o + i * 6 + 4, none⟩ = some (.slice x.da.a x.da.d.nodes.length x.da.cap) ∧ w.cell? ⟨b, o + i * 6 + 5, none⟩ = some (.int .i64 x.da.d.root) := by
  obtain ⟨b, o, ha, hlt, hc⟩ := h.rd.elem (c := 6) (fun _ => rfl) (by omega) hx
  exact ⟨h.ok x (List.mem_of_getElem? hx), b, o, ha, hlt, hc 0 (by omega), hc 1 (by omega), hc 2 (by omega), hc 3 (by omega), hc 4 (by omega), hc 5 (by omega)⟩

theorem drop_of {α : Type} {L : List α} {i : Nat} {x : α} (h : L[i]? = some x) : L.drop i = x :: L.drop (i + 1) := by
  obtain ⟨hi, rfl⟩ := List.getElem?_eq_some_iff.1 h
  exact List.drop_eq_getElem_cons hi

theorem chkSegs_bad {text : List UInt8} {pos : Int} {x : SegD} {l : List SegD} (h : segBad text pos x = true) : chkSegs text (x :: l) pos = 70 := by simp [chkSegs, h]
theorem chkSegs_good {text : List UInt8} {pos : Int} {x : SegD} {l : List SegD} (h : segBad text pos x = false) : chkSegs text (x :: l) pos = chkSegs text l x.till := by simp [chkSegs, h]

theorem byte_no {l : List UInt8} {n : Nat} (hn : n < l.length) (h : ¬ ((((⟨l.toArray⟩ : ByteArray)[n]'(show n < (⟨l.toArray⟩ : ByteArray).size from hn)).toNat : Int) = 10)) : l[n]? ≠ some 10 := by
  intro e
  apply h
  have e2 : (⟨l.toArray⟩ : ByteArray)[n]'(show n < (⟨l.toArray⟩ : ByteArray).size from hn) = l[n] := rfl
  rw [e2]
  rw [List.getElem?_eq_getElem hn] at e
  rw [Option.some.inj e]
  rfl
theorem byte_yes {l : List UInt8} {n : Nat} (hn : n < l.length) (h : (((⟨l.toArray⟩ : ByteArray)[n]'(show n < (⟨l.toArray⟩ : ByteArray).size from hn)).toNat : Int) = 10) : l[n]? = some 10 := by
  have e2 : (⟨l.toArray⟩ : ByteArray)[n]'(show n < (⟨l.toArray⟩ : ByteArray).size from hn) = l[n] := rfl
  rw [e2] at h
  rw [List.getElem?_eq_getElem hn]
  congr 1
  apply UInt8.toNat.inj
  exact_mod_cast h

theorem scheck_any (l : List UInt8) (V : List SegV) (a : Option Addr) (cap : Nat) (w : World) (hl : l.length ≤ 1048576) (hV : V.length ≤ 65536) (hr : SegsAt w a V) :
    Calls Tryz.prog 35 #[.agg #[str l, .slice a V.length cap]] w fun e w' => e = .returned (.int .i64 (chkS ⟨l, V.map SegV.d⟩)) ∧ Below w.heap.size w w' := by
  have hres : chkS ⟨l, V.map SegV.d⟩ = chkSegs l (V.map SegV.d) 0 := by
    unfold chkS
    rw [if_neg (by simp; omega)]
  rw [hres]
  clear hres
  generalize hc : chkSegs l (V.map SegV.d) 0 = c
  have HC := Lib.hid hc
  clear hc
  generalize hn : V.length = len at *
  have HN := Lib.hid hn
  clear hn
  have k0 := Blk.new w #[str l, .slice a len cap] 29
  have b0 : Below w.heap.size w (w.alloc (.cells #[str l, .slice a len cap] 29)) := (Below.refl _ _).alloc (Nat.le_refl _) _
  go_enter Tryz.func35, Tryz.ntmps35
  go_wp2_with fail
  go_loopg [19, 3, 5] (len + 1) (fun k ct va u5 wr => ∃ (i : Nat) (pos : Int), i ≤ len ∧ k + i = len + 1 ∧ ct = .int .i64 i ∧ va = .int .i64 pos ∧ 0 ≤ pos ∧ pos ≤ l.length ∧ Hid (chkSegs l ((V.drop i).map SegV.d) pos = c) ∧
    Below (w.alloc (.cells #[str l, .slice a len cap] 29)).heap.size (w.alloc (.cells #[str l, .slice a len cap] 29)) wr)
  case atStart => exact ⟨0, 0, Nat.zero_le _, rfl, rfl, rfl, by omega, by omega, HC, Below.refl _ _⟩
  case round =>
    obtain ⟨i, pos, hi, hk, rfl, rfl, p0, p1, HL, bel⟩ := hrel
    have bw := b0.trans (bel.mono b0.size)
    have k1 := k0.mod (Mod.of_below (S := fun _ => False) bel) (fun h => h)
    have e0 := k1.cell 0
    have e1 := k1.cell 1
    have hk1 := k1.lt
    simp at e0 e1
    by_cases hlt : i < len
    · obtain ⟨x, hx⟩ : ∃ x, V[i]? = some x := ⟨V[i]'(by have := HN.out; omega), List.getElem?_eq_getElem _⟩
      obtain ⟨hok, b, o, rfl, hb, x0, x1, x2, x3, x4, x5⟩ := (hr.below bw).at hx
      have hdr := drop_of hx
      have HL2 : Hid (chkSegs l (x.d :: (V.drop (i + 1)).map SegV.d) pos = c) := Lib.hid (by rw [← HL.out, hdr]; rfl)
      have i0 : (0 : Int) ≤ (i : Int) := by omega
      have i1 : (i : Int) < (len : Int) := by omega
      clear hx hdr HL
      obtain ⟨fr, till, file, at', ⟨d, da, dc⟩⟩ := x
      simp only [SegV.d] at *
      have bad : segBad l pos ⟨fr, till, file, at', d⟩ = true → c = 70 := fun h => by rw [← HL2.out, chkSegs_bad h]
      have BAD := Lib.hid bad
      clear bad
      go_wp2_with fail
      rotate_left
      · have hq : ¬ ((((⟨l.toArray⟩ : ByteArray)[till.toNat - 1]'(show till.toNat - 1 < l.length by omega)).toNat : Int) = 10) := by assumption
        have hq2 := byte_no (by omega) hq
        have hcc := BAD.out (by
          unfold segBad
          have e : (till - 1).toNat = till.toNat - 1 := by omega
          simp [e, hq2])
        go_ret
        exact ⟨by rw [hcc]; rfl, bw.alloc bw.size _⟩
      · have hcc := BAD.out (by unfold segBad; simp; omega)
        go_ret
        exact ⟨by rw [hcc]; rfl, bw.alloc bw.size _⟩
      · have hcc := BAD.out (by unfold segBad; simp; omega)
        go_ret
        exact ⟨by rw [hcc]; rfl, bw.alloc bw.size _⟩
      · have hcc := BAD.out (by unfold segBad; simp; omega)
        go_ret
        exact ⟨by rw [hcc]; rfl, bw.alloc bw.size _⟩
      have hq : (((⟨l.toArray⟩ : ByteArray)[till.toNat - 1]'(show till.toNat - 1 < l.length by omega)).toNat : Int) = 10 := by assumption
      have hq2 := byte_yes (by omega) hq
      have hfr : fr = pos := by assumption
      have Q2 := Lib.hid hq2
      clear hq hq2
      refine (check_any d da dc _ (hok.below ((Below.refl _ _).alloc (Nat.le_refl _) _))).mono ?_
      rintro e w2 ⟨rfl, b2⟩
      have k2 := (Blk.new wr #[.int .i64 pos, .int .i64 till, .int .i64 file, .int .i64 at', .slice da d.nodes.length dc, .int .i64 d.root] 45).mod (Mod.of_below (S := fun _ => False) b2) (fun h => h)
      have bw2 : Below w.heap.size w w2 := (bw.alloc bw.size _).trans (b2.mono (by have := bw.size; simp; omega))
      have bel2 := (bel.alloc bel.size (.cells #[.int .i64 pos, .int .i64 till, .int .i64 file, .int .i64 at', .slice da d.nodes.length dc, .int .i64 d.root] 45)).trans (b2.mono (by have := bel.size; simp at this ⊢; omega))
      have y0 := k2.cell 0
      have y1 := k2.cell 1
      have y2 := k2.cell 2
      have y3 := k2.cell 3
      have hk2 := k2.lt
      simp at y0 y1 y2 y3
      have hsub : 0 < till - pos ∧ till - pos ≤ 1048576 := by omega
      by_cases hq : chk d = 0
      · rw [hq]
        have HQ := Lib.hid hq
        clear hq
        go_wp2_with fail
        · have hcc := BAD.out (by unfold segBad; simp; omega)
          go_ret
          exact ⟨by rw [hcc]; rfl, bw2⟩
        · have hg : segBad l pos ⟨fr, till, file, at', d⟩ = false := by
            unfold segBad
            have e : (till - 1).toNat = till.toNat - 1 := by omega
            simp [e, Q2.out, HQ.out]
            omega
          have hl2 : chkSegs l ((V.drop (i + 1)).map SegV.d) till = c := by rw [← HL2.out, chkSegs_good hg]
          have HL3 := Lib.hid hl2
          clear hg hl2
          go_roundg (len - i)
          case measure => omega
          case rel => exact ⟨i + 1, till, by omega, by omega, by go_num, rfl, by omega, by omega, HL3, bel2⟩
        · have hcc := BAD.out (by unfold segBad; simp; omega)
          go_ret
          exact ⟨by rw [hcc]; rfl, bw2⟩
        · have hcc := BAD.out (by unfold segBad; simp; omega)
          go_ret
          exact ⟨by rw [hcc]; rfl, bw2⟩
      · have hcc := BAD.out (by unfold segBad; simp [hq])
        have hq' : (chk d != 0) = true := by rw [bne_iff_ne]; exact hq
        clear hq
        go_wp2_with fail
        go_ret
        exact ⟨by rw [hcc]; rfl, bw2⟩
    · have : i = len := by omega
      subst this
      have hd : V.drop i = [] := List.drop_of_length_le (by rw [HN.out]; exact Nat.le_refl _)
      have hcc : c = if pos < l.length then 70 else 0 := by rw [← HL.out, hd]; rfl
      have HCC := Lib.hid hcc
      clear hcc hd
      go_wp2_with fail
      · go_ret
        exact ⟨by rw [HCC.out, if_pos (by assumption)]; rfl, bw⟩
      · go_ret
        exact ⟨by rw [HCC.out, if_neg (by omega)]; rfl, bw⟩
end Go.Proofs.YtpekmohnjpbkgaaGreatDoor
