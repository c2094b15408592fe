/- The reader of files: read. -/
import Derived.Test.YtpekmohnjpbkgaaGreatDoorGroupN
import Derived.Deep.DeepCutAuto
namespace Go.Proofs.YtpekmohnjpbkgaaGreatDoor
open Go Go.RowKit
set_option maxHeartbeats 30000000
set_option maxRecDepth 100000
attribute [local go_sem ↓] Go.wp_at_zero Go.wp_at_succ

/-- The map of files that are read has turned. -/
theorem RM.mapped {C : RC} {m : RV} {st : St} {w w2 : World} (h : RM C m st w) (r : List (Int × Bool)) (hr : MapAt (Value.int .i64) Value.bool w2 C.bm r) (hm : Mod (fun k => k = C.bm) w w2) :
    RM C m { st with reading := r } w2 ∧ Stp C m w m w2 := by
  have hs : Stp C m w m w2 := ⟨hm.mono (fun _ _ e => .inr (.inl e)), fun _ h => .inl h⟩
  refine ⟨⟨h.blk.mod hm (fun e => h.reading.ne_blk h.blk e.symm), h.bp, h.buf.mod hm (fun g e e2 => h.buf.ne_map e h.reading e2), h.nil, h.out.mod hm (fun g e e2 => h.out.ne_map e h.reading e2), h.segs, fun x hx => (h.sets x hx).step hs, hr, ⟨h.ok.sets, h.ok.text, h.ok.out, h.ok.d0, h.ok.d1⟩, h.names.step hs, h.files.step hs, h.nums.mod hm (fun e => h.numsOut (.inr (.inl e))), h.numsOut, h.hb, h.hbm, fun k hk => Nat.lt_of_lt_of_le (h.xlt k hk) hm.size, h.xout, h.numsX⟩, hs⟩

section
variable {C : RC} {m0 : RV} {w0 : World} {kb : Nat} {ov : Value} {O : List SecV} {kd : DA} {m : RV} {ls : LS} {w : World}
theorem LM.pushIn (h : LM C m0 w0 kb ov O kd m ls w) {N : List SecV} {w2 : World} {n g cap : Nat} (ho : Own 201 6 SecV.cells w0.heap.size w2 (.slice (some ⟨g, 0, none⟩) n cap) N) (hm : Mod (fun k => ov.ownBlock = some k) w w2)
    (hg : ov.ownBlock = some g ∨ w.heap.size ≤ g) {a : Option Addr} {cs : List Value} (h1 : InR (ASet (C.at' kb ov) m) w a cs) : InR (ASet (C.at' kb (.slice (some ⟨g, 0, none⟩) n cap)) m) w2 a cs := by
  refine InR.grow (C := C.at' kb ov) (X2 := LX C kb (.slice (some ⟨g, 0, none⟩) n cap)) h1 (hm.mono (fun k _ e => .inr (.inr e))) ?_
  intro k hk
  rcases hk with hk | hk | hk
  · exact .inl (.inl hk)
  · exact .inl (.inr (.inl hk))
  · cases hk
    rcases hg with e | e
    · exact .inl (.inr (.inr e))
    · exact .inr ⟨e, (ho.lt (g := g) rfl).2⟩
end

section
variable {C : RC} {m0 : RV} {w0 : World} {kb : Nat} {kd : DA} {m : RV} {ls : LS} {w : World}
/-- The last section has turned. -/
theorem LM.turn {g cap : Nat} {D : List SecV} {x : SecV} (h : LM C m0 w0 kb (.slice (some ⟨g, 0, none⟩) (D.length + 1) cap) (D ++ [x]) kd m ls w) (y : SecV) {w2 : World} (ho : Own 201 6 SecV.cells w0.heap.size w2 (.slice (some ⟨g, 0, none⟩) (D.length + 1) cap) (D ++ [y])) (hm : Mod (fun k => k = g) w w2)
    (h1 : y.outer = x.outer) (h2 : y.rest = x.rest ∨ y.rest.ok w2 ∧ ∀ b o, y.rest.a = some ⟨b, o, none⟩ → w.heap.size ≤ b) {ls' : LS} (e1 : ls'.st = ls.st) (e2 : ls'.opens = ls.opens.dropLast ++ [y.d]) (e3 : ls'.k = ls.k) :
    LM C m0 w0 kb (.slice (some ⟨g, 0, none⟩) (D.length + 1) cap) (D ++ [y]) kd m ls' w2 := by
  have hmX : Mod (C.at' kb (.slice (some ⟨g, 0, none⟩) (D.length + 1) cap)).X w w2 := hm.mono (fun k _ e => .inr (.inr (by rw [e]; rfl)))
  have hox := h.oin x (by simp)
  refine ⟨by rw [e1]; exact h.rm.write hmX, h.box.mod hm (fun e => h.okb (g := g) rfl e.symm), by rw [e3]; exact h.hk, h.kin.write hmX, ho, ?_, fun z hz => ?_, h.since.local hm (fun k e => by rw [e]; exact (h.oge (g := g) rfl).1), h.kB⟩
  · rw [e2, ← h.opens, List.map_append, List.map_append]
    simp
  · rcases List.mem_append.1 hz with hz | hz
    · have := h.oin z (List.mem_append_left _ hz)
      exact ⟨this.1.write hmX, this.2.write hmX⟩
    · rw [List.mem_singleton] at hz
      subst hz
      refine ⟨by rw [h1]; exact hox.1.write hmX, ?_⟩
      rcases h2 with h2 | ⟨h2, h3⟩
      · rw [h2]; exact hox.2.write hmX
      · exact h.rm.fresh_in h2 h3
end

theorem stepF_def (L : List (List UInt8)) (M : List (List UInt8 × Int)) (rec : Int → Dg → St → Res St) (text : List UInt8) (ls : LS) : stepF L M rec text ls =
  if headOf (lineOf (text.drop ls.pos)) = sIf ∧ spacedOf (lineOf (text.drop ls.pos)) = true then
    match setF L (restOf (lineOf (text.drop ls.pos))) { ls.st with line := ls.st.line + 1 } with
    | .error p => .error p
    | .ok d =>
      match deepF { ls.st with line := ls.st.line + 1 } with
      | .error p => .error p
      | .ok st2 => .ok ⟨{ st2 with fresh := true }, ls.opens ++ [⟨ls.k, andD ls.k (notD d), false, ls.st.line + 1⟩], andD ls.k d, ls.pos + (lineOf (text.drop ls.pos)).length + 1⟩
  else if headOf (lineOf (text.drop ls.pos)) = sInclude ∧ spacedOf (lineOf (text.drop ls.pos)) = true then
    match numF M (restOf (lineOf (text.drop ls.pos))) { ls.st with line := ls.st.line + 1 } with
    | .error p => .error p
    | .ok m =>
      match deepF { ls.st with line := ls.st.line + 1 } with
      | .error p => .error p
      | .ok st2 =>
        match rec m ls.k st2 with
        | .error p => .error p
        | .ok st3 => .ok ⟨{ st3 with depth := st3.depth - 1, fresh := true }, ls.opens, ls.k, ls.pos + (lineOf (text.drop ls.pos)).length + 1⟩
  else if (headOf (lineOf (text.drop ls.pos)) = sElif ∧ spacedOf (lineOf (text.drop ls.pos)) = true) ∨ lineOf (text.drop ls.pos) = sElse ∨ lineOf (text.drop ls.pos) = sEnd then
    match ls.opens.getLast? with
    | none => St.fail { ls.st with line := ls.st.line + 1 } 72
    | some x =>
      if lineOf (text.drop ls.pos) = sEnd then .ok ⟨{ ls.st with line := ls.st.line + 1, depth := ls.st.depth - 1, fresh := true }, ls.opens.dropLast, x.outer, ls.pos + (lineOf (text.drop ls.pos)).length + 1⟩ else
      match branchF L x (decide (lineOf (text.drop ls.pos) = sElse)) (restOf (lineOf (text.drop ls.pos))) { ls.st with line := ls.st.line + 1 } with
      | .error p => .error p
      | .ok (x', k') => .ok ⟨{ ls.st with line := ls.st.line + 1, fresh := true }, ls.opens.dropLast ++ [x'], k', ls.pos + (lineOf (text.drop ls.pos)).length + 1⟩
  else
    match addF ((text.drop ls.pos).take ((lineOf (text.drop ls.pos)).length + 1)) ls.pos ls.k { ls.st with line := ls.st.line + 1 } with
    | .error p => .error p
    | .ok st2 => .ok ⟨st2, ls.opens, ls.k, ls.pos + (lineOf (text.drop ls.pos)).length + 1⟩ := rfl

theorem read_any : ∀ (f : Nat) (C : RC), RCok C → ∀ (m : RV) (st : St) (n : Int) (k : DA) (w : World), RM C m st w → Sm 6 k.d → InR (ASet C m) w k.a (brCells k.d.nodes) → 0 ≤ n → n < C.fs.length → 65 ≤ st.depth + f →
    Calls Tryz.prog 73 #[.pointer (some ⟨C.rb, 0, none⟩), .int .i64 n, k.val] w (StPost C m w (readF C.L C.M (C.fs.map Fl.text) f n k.d st)) := by
  intro f
  induction f with
  | zero =>
    intro C hC m st n k w h _ _ _ _ hd
    have := h.ok.d1
    omega
  | succ f ih =>
    intro C hC m st n k w h hk hki hn0 hn1 hd
    rw [readF_succ]
    obtain ⟨i, fl, hi, hfl⟩ : ∃ (i : Nat) (fl : Fl), n = i ∧ C.fs[i]? = some fl := ⟨n.toNat, C.fs[n.toNat]'(by omega), by omega, List.getElem?_eq_getElem _⟩
    subst hi
    have htx : (C.fs.map Fl.text).getD ((i : Int)).toNat [] = fl.text := by simp [List.getD, hfl]
    rw [htx]
    have hmem : fl ∈ C.fs := List.mem_of_getElem? hfl
    obtain ⟨tl, tn⟩ := hC.texts fl hmem
    -- the world with the box
    obtain ⟨⟨kn, kr⟩, ka, kc⟩ := k
    have b0 : Below w.heap.size w (w.alloc (.cells #[.slice ka kn.length kc, .int .i64 kr] 42)) := (Below.refl _ _).alloc (Nat.le_refl _) _
    have h1 := h.grow (X2 := LX C w.heap.size (.slice none 0 0)) (Mod.of_below b0) (fun k hk => by
      rcases hk with hk | hk | hk
      · exact .inl hk
      · exact .inr (by simp; omega)
      · cases hk)
    have box := Blk.new w #[.slice ka kn.length kc, .int .i64 kr] 42
    have ki1 := hki.grow (X2 := LX C w.heap.size (.slice none 0 0)) (Mod.of_below b0) (fun k hk => by
      rcases hk with hk | hk | hk
      · exact .inl hk
      · exact .inr (by simp; omega)
      · cases hk)
    have hrow : Own 201 6 SecV.cells w.heap.size (w.alloc (.cells #[.slice ka kn.length kc, .int .i64 kr] 42)) (.slice none 0 0) [] := Own.nil _ _
    have L0 : LM C m w w.heap.size (.slice none 0 0) [] ⟨⟨kn, kr⟩, ka, kc⟩ m ⟨st, [], ⟨kn, kr⟩, 0⟩ (w.alloc (.cells #[.slice ka kn.length kc, .int .i64 kr] 42)) :=
      ⟨h1, box, rfl, ki1, hrow, rfl, (fun x hx => by cases hx), Stp.of_below b0, Nat.le_refl _⟩
    clear h1 box ki1 hrow
    simp only [DA.val]
    go_enter Tryz.func73, Tryz.ntmps73
    go_upto_region 1 with fail
    generalize (w.alloc (.cells #[.slice ka kn.length kc, .int .i64 kr] 42)) = W at *
    have c9 : W.cell? ⟨C.rb, 9, none⟩ = some (.int .i64 st.file) := L0.rm.blk.cell 9
    have c10 : W.cell? ⟨C.rb, 10, none⟩ = some (.int .i64 st.line) := L0.rm.blk.cell 10
    have hlt : C.rb < W.heap.size := L0.rm.blk.lt
    go_quiet (fail)
    have L1 := L0.below (bdrewN (Below.refl W.heap.size W) nq)
    generalize hW1 : W.drewN nq = W1 at *
    have c2 : W1.cell? ⟨C.rb, 3, none⟩ = some (.map (some C.bm)) := L1.rm.blk.cell 3
    have hlt1 : C.rb < W1.heap.size := L1.rm.blk.lt
    clear hW1 c9 c10 hlt
    have hrd : MapAt (Value.int .i64) Value.bool W1 C.bm st.reading := L1.rm.reading
    go_upto_region 3 with (at_mapUpdate; refine wpList_mapUpdate_at (by rfl) 119 _ _ _ (by rfl) 3 4 Tryz.underlying119 key_int C.bm st.reading (by rfl) hrd (i : Int) (by rfl) true (by rfl) ?_)
    rintro W2 hr2 hm2 hs2
    have r2 := L1.rm.mapped _ hr2 hm2
    have L2 := L1.step (ls' := ⟨_, [], ⟨kn, kr⟩, 0⟩) r2.1 r2.2 rfl rfl rfl
    have L3 := ((L2.poke 9 (.int .i64 i) { st with reading := aset st.reading (i : Int) true, file := i } rfl rfl rfl rfl ⟨h.ok.sets, h.ok.text, h.ok.out, h.ok.d0, h.ok.d1⟩).poke 10 (.int .i64 0) { st with reading := aset st.reading (i : Int) true, file := i, line := 0 } rfl rfl rfl rfl ⟨h.ok.sets, h.ok.text, h.ok.out, h.ok.d0, h.ok.d1⟩).poke 8 (.bool true) { st with reading := aset st.reading (i : Int) true, file := i, line := 0, fresh := true } rfl rfl rfl rfl ⟨h.ok.sets, h.ok.text, h.ok.out, h.ok.d0, h.ok.d1⟩
    have k2 : Blk W2 C.rb _ 124 := L2.rm.blk
    have f9 := k2.frozen 9
    have f10 := k2.frozen 10
    have f8 := k2.frozen 8
    have e9 : W2.cell? ⟨C.rb, 9, none⟩ = some (.int .i64 st.file) := k2.cell 9
    have e10 : W2.cell? ⟨C.rb, 10, none⟩ = some (.int .i64 st.line) := k2.cell 10
    have e8 : W2.cell? ⟨C.rb, 8, none⟩ = some (.bool st.fresh) := k2.cell 8
    have hlt2 : C.rb < W2.heap.size := k2.lt
    have hcl : C.fs.length ≤ 256 := hC.files
    have ST := Lib.hid (show LsOk st.depth ⟨{ st with reading := aset st.reading (i : Int) true, file := i, line := 0, fresh := true }, [], ⟨kn, kr⟩, 0⟩ from ⟨⟨h.ok.sets, h.ok.text, h.ok.out, h.ok.d0, h.ok.d1⟩, (fun x hx => by cases hx), hk, by simp, h.ok.d0, fun e => by cases e⟩)
    have REC := Lib.hid (readF_ok hC.names C.M (C.fs.map Fl.text) f)
    have IH : Hid (∀ kb ov (m : RV) (st : St) (n : Int) (k : DA) (w : World), RM (C.at' kb ov) m st w → Sm 6 k.d → InR (ASet (C.at' kb ov) m) w k.a (brCells k.d.nodes) → 0 ≤ n → n < C.fs.length → 65 ≤ st.depth + f → Calls Tryz.prog 73 #[.pointer (some ⟨C.rb, 0, none⟩), .int .i64 n, k.val] w (StPost (C.at' kb ov) m w (readF C.L C.M (C.fs.map Fl.text) f n k.d st))) :=
      Lib.hid fun kb ov => ih (C.at' kb ov) ⟨hC.names, hC.nlen, hC.files, hC.texts, hC.nlen2⟩
    have HC := Lib.hid hC
    have RNG : Hid (∀ s st n, numF C.M s st = .ok n → 0 ≤ n ∧ n < C.fs.length) := Lib.hid fun s st n h' => by
      unfold numF at h'
      split at h'
      · cases h'
      · cases hg : aget C.M ((s.drop 1).take (s.length - 2)) with
        | none => rw [hg] at h'; cases h'
        | some v =>
          rw [hg] at h'
          simp only at h'
          split at h'
          · cases h'
          · cases h'
            have h9 := numG_range (C.fs.map Fl.name) _ _ hg
            rw [List.length_map] at h9
            exact ⟨h9.1, h9.2.1⟩
    have hR := fileF_def C.L C.M (readF C.L C.M (C.fs.map Fl.text) f) fl.text (i : Int) ⟨kn, kr⟩ st
    generalize readF C.L C.M (C.fs.map Fl.text) f = rec at *
    generalize hl : linesF C.L C.M rec fl.text (fl.text.length + 1) (startL (i : Int) ⟨kn, kr⟩ st) = lr at *
    have HR := Lib.hid hR
    have HL := Lib.hid hl
    have HD : Hid (65 ≤ st.depth + ((f + 1 : Nat) : Int)) := Lib.hid hd
    have D0 := Lib.hid h.ok.d0
    have DD := Lib.hid L3.since
    clear ih hR hl hd hki hC htx hm2 r2 hr2 hs2 L2 L1 L0 k2 hrd c2 hlt1 b0 DD
    go_upto_region 4 with fail
    generalize hW3 : ((W2.setCell ⟨C.rb, 9, none⟩ (.int .i64 i)).setCell ⟨C.rb, 10, none⟩ (.int .i64 0)).setCell ⟨C.rb, 8, none⟩ (.bool true) = W3 at *
    clear hW3 f9 f10 f8 e9 e10 e8 hlt2
    have c1 : W3.cell? ⟨C.rb, 1, none⟩ = some (.slice C.fa C.fs.length C.fc) := L3.rm.blk.cell 1
    have hlt3 : C.rb < W3.heap.size := L3.rm.blk.lt
    obtain ⟨fb, fo, hfa, hfb, hfc⟩ := L3.rm.files.rd.elem (c := 2) (fun _ => rfl) (by omega) hfl
    have t1 := hfc 1 (by omega)
    simp only [Fl.cells, List.getElem?_cons_succ, List.getElem?_cons_zero] at t1
    have hfa' : C.fa = some ⟨fb, fo, none⟩ := hfa
    rw [hfa'] at c1
    generalize hnf : C.fs.length = nf at *
    clear hfl hfc hmem hnf
    generalize fl.text = tx at *
    generalize hlen : tx.length = len at *
    have HLEN := Lib.hid hlen
    clear hlen
    go_wp2_with fail
    go_loopg [8, 10] (len + 1) (fun g ov ct wr => ∃ (O : List SecV) (kd : DA) (m1 : RV) (ls : LS), ct = .int .i64 ls.pos ∧ ls.pos ≤ len ∧ len + 1 ≤ g + ls.pos ∧ 0 ≤ ls.st.line ∧ ls.st.line ≤ ls.pos ∧ LM C m w w.heap.size ov O kd m1 ls wr ∧ Hid (LsOk st.depth ls) ∧ Hid (linesF C.L C.M rec tx g ls = lr))
    case atStart => exact ⟨[], ⟨⟨kn, kr⟩, ka, kc⟩, m, _, rfl, Nat.zero_le _, by simp, by simp, by simp, L3, ST, HL⟩
    case round =>
      clear L3 ST c1 t1 hlt3 hfb hfa hfa' HL
      obtain ⟨O, kd, m1, ls, rfl, hp, hg, hl0, hl1, L, LO, HLN⟩ := hrel
      by_cases hlt : ls.pos < len
      · obtain ⟨g, rfl⟩ : ∃ g, gk = g + 1 := ⟨gk - 1, by omega⟩
        obtain ⟨hle, hix⟩ := line_lt tn (pos := ls.pos) (by rw [HLEN.out]; exact hlt)
        rw [HLEN.out] at hle
        have htk := line_take tx ls.pos
        have hstep : linesF C.L C.M rec tx (g + 1) ls = match stepF C.L C.M rec tx ls with | .error p => .error p | .ok ls' => linesF C.L C.M rec tx g ls' := by
          show (if _ then _ else _) = _
          rw [if_pos (by rw [HLEN.out]; exact hlt)]
          cases stepF C.L C.M rec tx ls <;> rfl
        rw [HLN.out] at hstep
        have HS := Lib.hid hstep
        have hix2 : Calls Tryz.prog 134 #[.string ((⟨tx.toArray⟩ : ByteArray).extract ls.pos len), .int .u8 10] wr fun e w' => e = .returned (.int .i64 ((lineOf (tx.drop ls.pos)).length : Nat)) ∧ wr = w' := by
          have := Tryz.strings_IndexByte ((⟨tx.toArray⟩ : ByteArray).extract ls.pos len) 10 wr
          have e1 : (⟨tx.toArray⟩ : ByteArray).extract ls.pos len = ⟨(tx.drop ls.pos).toArray⟩ := by
            rw [ext_cut, List.take_of_length_le (by simp; rw [HLEN.out]; omega)]
          rw [e1] at this ⊢
          have e2 : Lib.indexByte (⟨(tx.drop ls.pos).toArray⟩ : ByteArray).data.toList (10 : Int).toNat.toUInt8 = ((lineOf (tx.drop ls.pos)).length : Int) := hix
          rw [e2] at this
          exact this.mono fun e w' h => ⟨h.1, h.2.symm⟩
        have hcut := ext_cut tx ls.pos (ls.pos + (lineOf (tx.drop ls.pos)).length)
        rw [show ls.pos + (lineOf (tx.drop ls.pos)).length - ls.pos = (lineOf (tx.drop ls.pos)).length by omega, htk] at hcut
        generalize hs : lineOf (tx.drop ls.pos) = s at *
        have HSL := Lib.hid hs
        have HN := HLEN
        have hsz : (⟨tx.toArray⟩ : ByteArray).size = len := HLEN.out
        clear hs htk hix hstep HLN HLEN
        have hlr : C.rb < wr.heap.size := L.rm.blk.lt
        have c10 : wr.cell? ⟨C.rb, 10, none⟩ = some (.int .i64 ls.st.line) := L.rm.blk.cell 10
        have f10 : wr.frozen? ⟨C.rb, 10, none⟩ = false := Blk.frozen L.rm.blk 10
        go_upto_region 10 with (first | (go_at_call 134; refine hix2.mono ?_; rintro e w' ⟨rfl, rfl⟩))
        rw [hcut]
        have LO1 := LO.out.st.at_line (ls.st.line + 1)
        have L1 := L.poke 10 (.int .i64 (ls.st.line + 1)) { ls.st with line := ls.st.line + 1 } rfl rfl rfl rfl LO1
        generalize hWl : wr.setCell ⟨C.rb, 10, none⟩ (.int .i64 (ls.st.line + 1)) = Wl at *
        have hct := cut_space s (by omega) Wl
        have LO1 := Lib.hid LO1
        clear hix2 hcut hWl c10 f10 hlr L hsz
        go_wp2_with fail
        refine hct.mono ?_
        rintro e W5 ⟨rfl, b5⟩
        have L5 := L1.below b5
        clear hct L1
        have hsp : decide ((headOf s).length < s.length) = spacedOf s := rfl
        have hst := stepF_def C.L C.M rec tx ls
        have hok : ∀ ls', stepF C.L C.M rec tx ls = .ok ls' → LsOk st.depth ls' ∧ ls'.pos = ls.pos + (lineOf (tx.drop ls.pos)).length + 1 ∧ ls'.st.file = ls.st.file ∧ ls'.st.line = ls.st.line + 1 := fun ls' h' => stepF_ok HC.out.names REC.out h' LO.out (by rw [HN.out]; exact hlt)
        rw [HSL.out, ← L5.hk] at hst
        rw [HSL.out] at hok
        generalize stepF C.L C.M rec tx ls = stp at *
        have HST := Lib.hid hst
        have HOK := Lib.hid hok
        have hrl : (restOf s).length ≤ s.length := by simp [restOf]
        clear hst hok
        go_upto_region 14 with fail
        clear hsp
        generalize restOf s = rs at *
        generalize headOf s = hd at *
        generalize spacedOf s = sp at *
        go_cut [96] (fun v wx => v = .bool (decide (hd = sIf) && sp) ∧ wx = W5)
        case first =>
          as_aux_lemma =>
            by_cases h1 : hd = sIf
            · subst h1
              cases sp
              · go_wp2_with fail
                go_meet
                exact ⟨by simp [sIf], rfl⟩
              · go_wp2_with fail
                go_meet
                exact ⟨by simp [sIf], rfl⟩
            · have h2 : (hd == [35, 105, 102]) = false := by rw [beq_eq_false_iff_ne]; exact h1
              have H1 := Lib.hid h1
              clear h1
              go_wp2_with fail
              go_meet
              exact ⟨by rw [decide_eq_false H1.out]; rfl, rfl⟩
        case rest =>
          obtain ⟨rfl, rfl⟩ := hcut
          cases hc1 : (decide (hd = sIf) && sp)
          · have hn1 : ¬ (hd = sIf ∧ sp = true) := by
              rintro ⟨rfl, rfl⟩
              simp at hc1
            have hst := HST.out
            rw [if_neg hn1] at hst
            have HST1 := Lib.hid hst
            clear hst HST hc1 hn1
            go_upto_region 20 with fail
            go_cut [125] (fun v wx => v = .bool (decide (hd = sInclude) && sp) ∧ wx = wc)
            case first =>
              as_aux_lemma =>
                by_cases h1 : hd = sInclude
                · subst h1
                  cases sp
                  · go_wp2_with fail
                    go_meet
                    exact ⟨by simp [sInclude], rfl⟩
                  · go_wp2_with fail
                    go_meet
                    exact ⟨by simp [sInclude], rfl⟩
                · have h2 : (hd == [35, 105, 110, 99, 108, 117, 100, 101]) = false := by rw [beq_eq_false_iff_ne]; exact h1
                  have H1 := Lib.hid h1
                  clear h1
                  go_wp2_with fail
                  go_meet
                  exact ⟨by rw [decide_eq_false H1.out]; rfl, rfl⟩
            case rest =>
              obtain ⟨rfl, rfl⟩ := hcut
              cases hc2 : (decide (hd = sInclude) && sp)
              · have hn2 : ¬ (hd = sInclude ∧ sp = true) := by
                  rintro ⟨rfl, rfl⟩
                  simp at hc2
                have hst := HST1.out
                rw [if_neg hn2] at hst
                have HST2 := Lib.hid hst
                clear hst HST1 hc2 hn2
                go_upto_region 25 with fail
                go_cut [147] (fun v wx => v = .bool (((decide (hd = sElif) && sp) || decide (s = sElse)) || decide (s = sEnd)) ∧ wx = wc)
                case first =>
                  as_aux_lemma =>
                    have r1 : Hid (decide (hd = sElif) = (hd == [35, 101, 108, 105, 102])) := Lib.hid (by rw [Bool.eq_iff_iff, decide_eq_true_eq, beq_iff_eq]; rfl)
                    have r2 : Hid (decide (s = sElse) = (s == [35, 101, 108, 115, 101])) := Lib.hid (by rw [Bool.eq_iff_iff, decide_eq_true_eq, beq_iff_eq]; rfl)
                    have r3 : Hid (decide (s = sEnd) = (s == [35, 101, 110, 100])) := Lib.hid (by rw [Bool.eq_iff_iff, decide_eq_true_eq, beq_iff_eq]; rfl)
                    generalize hb1 : (hd == [35, 101, 108, 105, 102]) = b1
                    generalize hb2 : (s == [35, 101, 108, 115, 101]) = b2
                    generalize hb3 : (s == [35, 101, 110, 100]) = b3
                    rw [hb1] at r1
                    rw [hb2] at r2
                    rw [hb3] at r3
                    cases b1
                    · cases b2
                      all_goals
                        go_wp2_with fail
                        go_meet
                        exact ⟨by rw [r1.out, r2.out, r3.out]; rfl, rfl⟩
                    · cases sp
                      · cases b2
                        all_goals
                          go_wp2_with fail
                          go_meet
                          exact ⟨by rw [r1.out, r2.out, r3.out]; rfl, rfl⟩
                      · go_wp2_with fail
                        go_meet
                        exact ⟨by rw [r1.out]; rfl, rfl⟩
                case rest =>
                  obtain ⟨rfl, rfl⟩ := hcut
                  cases hc3 : (((decide (hd = sElif) && sp) || decide (s = sElse)) || decide (s = sEnd))
                  · as_aux_lemma =>
                      -- a line of text
                      have hn3 : ¬ ((hd = sElif ∧ sp = true) ∨ s = sElse ∨ s = sEnd) := by
                        rintro (⟨rfl, rfl⟩ | rfl | rfl)
                        · simp at hc3
                        · simp at hc3
                        · simp at hc3
                      have hst := HST2.out
                      rw [if_neg hn3] at hst
                      have HST3 := Lib.hid hst
                      clear hst HST2 hc3 hn3
                      have hcut2 := ext_cut tx ls.pos (ls.pos + s.length + 1)
                      rw [show ls.pos + s.length + 1 - ls.pos = s.length + 1 by omega] at hcut2
                      have hsl : ((tx.drop ls.pos).take (s.length + 1)).length = s.length + 1 := by
                        have := HN.out
                        simp
                        omega
                      generalize (tx.drop ls.pos).take (s.length + 1) = sg at *
                      have L6 := L5.below ((Below.refl wc.heap.size wc).drew)
                      have had := add_any (C.at' w.heap.size u8) m1 _ sg (fun e => by rw [e] at hsl; simp at hsl) (by omega) (ls.pos : Int) kd (by rw [L5.hk]; exact LO.out.k) wc.drew L6.rm LO.out.fr L6.kin.rd
                      have k0 : wc.cell? ⟨w.heap.size, 0, none⟩ = _ := L5.box.cell 0
                      have k1 : wc.cell? ⟨w.heap.size, 1, none⟩ = _ := L5.box.cell 1
                      have hkl := L5.box.lt
                      simp at k0 k1
                      simp only [DA.val] at had
                      change Calls Tryz.prog 142 #[.pointer (some ⟨C.rb, 0, none⟩), _, _, _] _ _ at had
                      have hcl2 : ls.pos + s.length + 1 ≤ len := hle
                      have hsz : (⟨tx.toArray⟩ : ByteArray).size = len := HN.out
                      go_upto_region 12 with fail
                      have j0 : (0 : Int) ≤ (ls.pos : Int) := by omega
                      have j1 : (ls.pos : Int) ≤ (ls.pos : Int) + (s.length : Int) + 1 := by omega
                      have j2 : (ls.pos : Int) + (s.length : Int) + 1 ≤ (len : Int) := by omega
                      go_still_tail 7, (by kernel_rfl)
                      go_wp2_with fail
                      rw [hcut2]
                      refine had.mono ?_
                      rintro e W6 hpost
                      clear had k0 k1 hkl
                      cases hadd : addF sg ls.pos kd.d { ls.st with line := ls.st.line + 1 } with
                      | error p =>
                        rw [hadd] at hpost
                        obtain ⟨rfl, md⟩ := hpost
                        have hst := HST3.out
                        rw [hadd] at hst
                        refine ⟨rfl, ?_⟩
                        have hlr : lr = .error p := by rw [HS.out, hst]
                        rw [HR.out, hlr]
                        exact ⟨rfl, L6.since.mod.trans' md (fun _ _ h => h) (fun k hk hr => (L6.since.new k hr).elim (fun h => h) (fun h => by omega))⟩
                      | ok st2 =>
                        rw [hadd] at hpost
                        obtain ⟨rfl, m2, rm7, sp7⟩ := hpost
                        have hst := HST3.out
                        rw [hadd] at hst
                        have HST4 := Lib.hid hst
                        have L7 := L6.step (ls' := { ls with st := st2 }) rm7 sp7 rfl rfl rfl
                        clear hst hadd HST3 rm7 L6 L5 sp7 hcut2 hsz
                        go_wp2_with fail
                        have hst := HST4.out
                        have hok := HOK.out _ hst
                        have hlr : linesF C.L C.M rec tx g ⟨st2, ls.opens, kd.d, ls.pos + s.length + 1⟩ = lr := by rw [HS.out, hst]
                        go_roundg g
                        case measure => omega
                        case rel => exact ⟨_, _, m2, ⟨st2, ls.opens, kd.d, ls.pos + s.length + 1⟩, by go_num, by show ls.pos + s.length + 1 ≤ len; omega, by show len + 1 ≤ g + (ls.pos + s.length + 1); omega, by rw [hok.2.2.2]; omega, by rw [hok.2.2.2]; show ls.st.line + 1 ≤ ((ls.pos + s.length + 1 : Nat) : Int); omega, ⟨L7.rm, L7.box, rfl, L7.kin, L7.row, L7.opens, L7.oin, L7.since, L7.kB⟩, Lib.hid hok.1, Lib.hid hlr⟩
                  · as_aux_lemma =>
                      -- #elif, #else, #end
                      have hn3 : (hd = sElif ∧ sp = true) ∨ s = sElse ∨ s = sEnd := by
                        simp only [Bool.or_eq_true, Bool.and_eq_true, decide_eq_true_eq] at hc3
                        rcases hc3 with (h | h) | h
                        · exact .inl h
                        · exact .inr (.inl h)
                        · exact .inr (.inr h)
                      have hst := HST2.out
                      rw [if_pos hn3] at hst
                      have HST3 := Lib.hid hst
                      clear hst HST2 hc3 hn3
                      obtain ⟨oa, oc, hov⟩ := L5.row.form
                      subst hov
                      have hOl : O.length = ls.opens.length := by rw [← L5.opens, List.length_map]
                      by_cases hne : ls.opens = []
                      · have hst := HST3.out
                        simp only [hne, List.getLast?_nil] at hst
                        have hlr : lr = .error ⟨72, ls.st.file, ls.st.line + 1⟩ := by rw [HS.out, hst]; rfl
                        have HLR := Lib.hid hlr
                        clear hst hlr
                        have hO0 : O.length = 0 := by rw [hOl, hne]; rfl
                        have fl := L5.rm.fails 72
                        change Calls Tryz.prog 140 #[.pointer (some ⟨C.rb, 0, none⟩), .int .i64 72] _ _ at fl
                        rw [hO0]
                        go_wp2_with fail
                        refine fl.mono ?_
                        rintro e w6 ⟨rfl, mm⟩
                        refine ⟨rfl, ?_⟩
                        rw [HR.out, HLR.out]
                        exact ⟨rfl, L5.since.mod.trans' mm (fun _ _ h => h) (fun _ _ h => h.elim)⟩
                      · obtain ⟨D, x, g', cap, rfl, hv, hx⟩ := L5.last hne
                        have hl2 : (D ++ [x]).length = D.length + 1 := by simp
                        have hcap := L5.row.cap_le
                        rw [hl2] at L5 hOl hv hcap ⊢
                        obtain ⟨rfl, -, rfl⟩ := Value.slice.inj hv
                        clear hv hl2
                        have hst := HST3.out
                        simp only [hx] at hst
                        have HST4 := Lib.hid hst
                        clear hst HST3
                        obtain ⟨cur, hcb, hcc⟩ := L5.row.lastCells
                        have hD64 : D.length ≤ 64 := by
                          have h2 := LO.out.depth
                          have h3 := LO.out.st.d1
                          have h4 := D0.out
                          omega
                        have HNE := Lib.hid hne
                        clear hne hx hOl
                        have k0 : wc.cell? ⟨w.heap.size, 0, none⟩ = _ := L5.box.cell 0
                        have k1 : wc.cell? ⟨w.heap.size, 1, none⟩ = _ := L5.box.cell 1
                        have kf0 := L5.box.frozen 0
                        have kf1 := L5.box.frozen 1
                        have kl := L5.box.lt
                        have gl := hcb.lt
                        simp at k0 k1
                        by_cases hend : s = sEnd
                        · have hst := HST4.out
                          rw [if_pos hend] at hst
                          have HST5 := Lib.hid hst
                          have he : (s == [35, 101, 110, 100]) = true := by rw [beq_iff_eq]; exact hend
                          have hok := HOK.out _ hst
                          have q0 : 0 ≤ ls.st.depth - 1 := hok.1.st.d0
                          have q1 : ls.st.depth - 1 ≤ 64 := hok.1.st.d1
                          clear hst HST4 hend
                          have x0 : wc.cell? ⟨g', D.length * 6, none⟩ = some (.slice x.outer.a x.outer.d.nodes.length x.outer.cap) := by rw [hcb.cell]; exact hcc 0 (by omega)
                          have x1 : wc.cell? ⟨g', D.length * 6 + 1, none⟩ = some (.int .i64 x.outer.d.root) := by rw [hcb.cell]; exact hcc 1 (by omega)
                          have r4 : wc.cell? ⟨C.rb, 4, none⟩ = some (.int .i64 ls.st.depth) := L5.rm.blk.cell 4
                          have rf4 : wc.frozen? ⟨C.rb, 4, none⟩ = false := Blk.frozen L5.rm.blk 4
                          have r8 : wc.cell? ⟨C.rb, 8, none⟩ = some (.bool ls.st.fresh) := L5.rm.blk.cell 8
                          have rf8 : wc.frozen? ⟨C.rb, 8, none⟩ = false := Blk.frozen L5.rm.blk 8
                          have rl : C.rb < wc.heap.size := L5.rm.blk.lt
                          have rne : C.rb ≠ w.heap.size := fun e => by have := L5.rm.blk.ne L5.box (by decide); exact this e
                          have o9 := L5.rm.ok
                          have o10 : StOk { ls.st with line := ls.st.line + 1, depth := ls.st.depth - 1 } := ⟨o9.sets, o9.text, o9.out, q0, q1⟩
                          have L6 := L5.setk (ls' := ⟨{ ls.st with line := ls.st.line + 1 }, ls.opens, x.outer.d, ls.pos⟩) x.outer (L5.oin x (by simp)).1 rfl rfl rfl
                          have L7 := L6.pop (ls' := ⟨{ ls.st with line := ls.st.line + 1 }, ls.opens.dropLast, x.outer.d, ls.pos⟩) rfl rfl rfl
                          have L8 := (L7.poke 4 (.int .i64 (ls.st.depth - 1)) { ls.st with line := ls.st.line + 1, depth := ls.st.depth - 1 } rfl rfl rfl rfl o10).poke 8 (.bool true) { ls.st with line := ls.st.line + 1, depth := ls.st.depth - 1, fresh := true } rfl rfl rfl rfl o10.freshen
                          clear L5 L6 L7 o9 o10 hcb hcc
                          go_wp2_with fail
                          have hst := HST5.out
                          have hlr : linesF C.L C.M rec tx g ⟨{ ls.st with line := ls.st.line + 1, depth := ls.st.depth - 1, fresh := true }, ls.opens.dropLast, x.outer.d, ls.pos + s.length + 1⟩ = lr := by rw [HS.out, hst]; rfl
                          go_roundg g
                          case measure => omega
                          case rel => exact ⟨_, _, m1, ⟨{ ls.st with line := ls.st.line + 1, depth := ls.st.depth - 1, fresh := true }, ls.opens.dropLast, x.outer.d, ls.pos + s.length + 1⟩, by go_num, by show ls.pos + s.length + 1 ≤ len; omega, by show len + 1 ≤ g + (ls.pos + s.length + 1); omega, by show 0 ≤ ls.st.line + 1; omega, by show ls.st.line + 1 ≤ ((ls.pos + s.length + 1 : Nat) : Int); omega, ⟨L8.rm, L8.box, rfl, L8.kin, L8.row, L8.opens, L8.oin, L8.since, L8.kB⟩, Lib.hid hok.1, Lib.hid hlr⟩
                        · have hst := HST4.out
                          rw [if_neg hend] at hst
                          have HST5 := Lib.hid hst
                          have he : (s == [35, 101, 110, 100]) = false := by rw [beq_eq_false_iff_ne]; exact hend
                          have ho : decide (s = sElse) = (s == [35, 101, 108, 115, 101]) := by rw [Bool.eq_iff_iff, decide_eq_true_eq, beq_iff_eq]; rfl
                          rw [ho] at HST5
                          clear hst HST4 hend ho
                          generalize hother : (s == [35, 101, 108, 115, 101]) = other at *
                          have hxm : x.d ∈ ls.opens := by have := L5.opens; rw [← this]; simp
                          have hbr := branch_any (C.at' w.heap.size (.slice (some ⟨g', 0, none⟩) (D.length + 1) oc)) ⟨HC.out.names, HC.out.nlen, HC.out.files, HC.out.texts, HC.out.nlen2⟩ m1 _ g' (D.length * 6) cur x (LO.out.opens x.d hxm).2 other rs (by omega) wc L5.rm hcb hcc (.inr (.inr rfl)) (L5.oin x (by simp)).2
                          change Calls Tryz.prog 141 #[.pointer (some ⟨C.rb, 0, none⟩), _, _, _] wc (BrPost (C.at' w.heap.size (.slice (some ⟨g', 0, none⟩) (D.length + 1) oc)) m1 g' (D.length * 6) cur x wc (branchF C.L x.d other rs { ls.st with line := ls.st.line + 1 })) at hbr
                          cases hb : branchF C.L x.d other rs { ls.st with line := ls.st.line + 1 } with
                          | error p =>
                            rw [hb] at hbr
                            have hst := HST5.out
                            rw [hb] at hst
                            have hlr : lr = .error p := by rw [HS.out, hst]
                            have HLR := Lib.hid hlr
                            clear hst hlr hb HST5 k0 k1 kf0 kf1
                            go_wp2_with fail
                            refine hbr.mono ?_
                            rintro e W6 ⟨rfl, md⟩
                            refine ⟨rfl, ?_⟩
                            rw [HR.out, HLR.out]
                            have gge := (L5.oge (g := g') rfl).1
                            exact ⟨rfl, L5.since.mod.trans' md (fun _ _ h => h) (fun k hk e => by omega)⟩
                          | ok pp =>
                            obtain ⟨x', k'⟩ := pp
                            rw [hb] at hbr
                            have hst := HST5.out
                            rw [hb] at hst
                            have HST6 := Lib.hid hst
                            clear hst hb HST5 k0 k1 kf0 kf1 kl gl
                            go_wp2_with fail
                            refine hbr.mono ?_
                            rintro e W6 ⟨y, q, cur', hyd, hqd, rfl, hcb', hsz', hyc, hoth, hmg, hyo, hyr, hqr⟩
                            have HYD := Lib.hid hyd
                            have HQD := Lib.hid hqd
                            clear hbr hyd hqd
                            have own2 := L5.row.lastSet hcb hcb' hsz' hyc hoth
                            have hmX : Mod (C.at' w.heap.size (.slice (some ⟨g', 0, none⟩) (D.length + 1) oc)).X wc W6 := hmg.mono (fun k _ e => .inr (.inr (by rw [e]; rfl)))
                            have hq2 : InR (ASet (C.at' w.heap.size (.slice (some ⟨g', 0, none⟩) (D.length + 1) oc)) m1) W6 q.a (brCells q.d.nodes) := by
                              rcases hqr with hqr | ⟨hq1, hq2⟩
                              · rw [hqr]; exact (L5.oin x (by simp)).2.write hmX
                              · exact L5.rm.fresh_in hq1 hq2
                            have L6 := L5.turn (ls' := ⟨{ ls.st with line := ls.st.line + 1 }, ls.opens.dropLast ++ [y.d], ls.k, ls.pos⟩) y own2 hmg hyo hyr rfl rfl rfl
                            clear own2 hmX hqr hyr hyc hoth hsz' hcb hcc hcb' hmg L5
                            have k0 : W6.cell? ⟨w.heap.size, 0, none⟩ = _ := L6.box.cell 0
                            have k1 : W6.cell? ⟨w.heap.size, 1, none⟩ = _ := L6.box.cell 1
                            have kf0 := L6.box.frozen 0
                            have kf1 := L6.box.frozen 1
                            have kl := L6.box.lt
                            have r8 : W6.cell? ⟨C.rb, 8, none⟩ = some (.bool ls.st.fresh) := L6.rm.blk.cell 8
                            have rf8 : W6.frozen? ⟨C.rb, 8, none⟩ = false := Blk.frozen L6.rm.blk 8
                            have rl : C.rb < W6.heap.size := L6.rm.blk.lt
                            have o2 := L6.rm.ok
                            simp at k0 k1
                            have L7 := (L6.setk (ls' := ⟨{ ls.st with line := ls.st.line + 1 }, ls.opens.dropLast ++ [y.d], q.d, ls.pos⟩) q hq2 rfl rfl rfl).poke 8 (.bool true) { ls.st with line := ls.st.line + 1, fresh := true } rfl rfl rfl rfl o2.freshen
                            clear L6 hq2 o2
                            simp only [DA.val]
                            go_wp2_with fail
                            have hst := HST6.out
                            have hok := HOK.out _ hst
                            have hlr : linesF C.L C.M rec tx g ⟨{ ls.st with line := ls.st.line + 1, fresh := true }, ls.opens.dropLast ++ [y.d], q.d, ls.pos + s.length + 1⟩ = lr := by rw [HS.out, hst, HYD.out, HQD.out]
                            rw [← HYD.out, ← HQD.out] at hok
                            go_roundg g
                            case measure => omega
                            case rel => exact ⟨_, _, m1, ⟨{ ls.st with line := ls.st.line + 1, fresh := true }, ls.opens.dropLast ++ [y.d], q.d, ls.pos + s.length + 1⟩, by go_num, by show ls.pos + s.length + 1 ≤ len; omega, by show len + 1 ≤ g + (ls.pos + s.length + 1); omega, by show 0 ≤ ls.st.line + 1; omega, by show ls.st.line + 1 ≤ ((ls.pos + s.length + 1 : Nat) : Int); omega, ⟨L7.rm, L7.box, L7.hk, L7.kin, L7.row, L7.opens, L7.oin, L7.since, L7.kB⟩, Lib.hid hok.1, Lib.hid hlr⟩
              · as_aux_lemma =>
                  -- #include
                  rw [Bool.and_eq_true, decide_eq_true_eq] at hc2
                  have hst := HST1.out
                  rw [if_pos hc2] at hst
                  have HST2 := Lib.hid hst
                  clear hst HST1
                  obtain ⟨rfl, rfl⟩ := hc2
                  have hnum := number_any (C.at' w.heap.size u8) m1 _ rs (by omega) wc L5.rm
                  change Calls Tryz.prog 139 #[.pointer (some ⟨C.rb, 0, none⟩), str rs] wc (NumPost7 wc (numF C.M rs { ls.st with line := ls.st.line + 1 })) at hnum
                  cases hd1 : numF C.M rs { ls.st with line := ls.st.line + 1 } with
                  | error p =>
                    rw [hd1] at hnum
                    have hst := HST2.out
                    rw [hd1] at hst
                    have hlr : lr = .error p := by rw [HS.out, hst]
                    have HLR := Lib.hid hlr
                    clear hst hlr hd1
                    go_wp2_with fail
                    refine hnum.mono ?_
                    rintro e W6 ⟨rfl, b6⟩
                    refine ⟨rfl, ?_⟩
                    rw [HR.out, HLR.out]
                    exact ⟨rfl, (L5.below b6).since.mod⟩
                  | ok mm =>
                    rw [hd1] at hnum
                    have hst := HST2.out
                    rw [hd1] at hst
                    have HST3 := Lib.hid hst
                    obtain ⟨hm0, hm1⟩ := RNG.out _ _ _ hd1
                    clear hst hd1 HST2
                    go_wp2_with fail
                    refine hnum.mono ?_
                    rintro e W6 ⟨rfl, b6⟩
                    have L6 := L5.below b6
                    clear hnum L5
                    have hdp := deeper_any (C.at' w.heap.size u8) m1 _ _ L6.rm
                    change Calls Tryz.prog 137 #[.pointer (some ⟨C.rb, 0, none⟩)] _ (StPost (C.at' w.heap.size u8) m1 _ (deepF { ls.st with line := ls.st.line + 1 })) at hdp
                    go_wp2_with fail
                    refine hdp.mono ?_
                    rintro e W8 hpost
                    clear hdp
                    cases hdf2 : deepF { ls.st with line := ls.st.line + 1 } with
                    | error p =>
                      rw [hdf2] at hpost
                      obtain ⟨rfl, md⟩ := hpost
                      have hst := HST3.out
                      rw [hdf2] at hst
                      refine ⟨rfl, ?_⟩
                      have hlr : lr = .error p := by rw [HS.out, hst]
                      rw [HR.out, hlr]
                      exact ⟨rfl, L6.since.mod.trans' md (fun _ _ h => h) (fun k hk hr => (L6.since.new k hr).elim (fun h => h) (fun h => by omega))⟩
                    | ok st2 =>
                      rw [hdf2] at hpost
                      obtain ⟨rfl, m2, rm8, sp8⟩ := hpost
                      obtain ⟨-, hst2, -⟩ := deepF_ok hdf2 LO1.out
                      have hst := HST3.out
                      rw [hdf2] at hst
                      have HST4 := Lib.hid hst
                      have L8 := L6.step (ls' := { ls with st := st2 }) rm8 sp8 rfl rfl rfl
                      clear hst hdf2 HST3 rm8 L6
                      have hrec := IH.out w.heap.size u8 m2 st2 mm kd W8 L8.rm (by rw [L8.hk]; exact LO.out.k) L8.kin hm0 hm1 (by
                        have h2 := LO.out.depth
                        have h4 := HD.out
                        rw [hst2]
                        show 65 ≤ ls.st.depth + 1 + (f : Int)
                        omega)
                      simp only [DA.val] at hrec
                      have k0 : W8.cell? ⟨w.heap.size, 0, none⟩ = _ := L8.box.cell 0
                      have k1 : W8.cell? ⟨w.heap.size, 1, none⟩ = _ := L8.box.cell 1
                      have hkl := L8.box.lt
                      simp at k0 k1
                      go_wp2_with fail
                      refine hrec.mono ?_
                      rintro e W9 hpost
                      clear hrec k0 k1 hkl
                      cases hr9 : rec mm kd.d st2 with
                      | error p =>
                        rw [hr9] at hpost
                        obtain ⟨rfl, md⟩ := hpost
                        have hst := HST4.out
                        simp only [hr9] at hst
                        refine ⟨rfl, ?_⟩
                        have hlr : lr = .error p := by rw [HS.out, hst]
                        rw [HR.out, hlr]
                        exact ⟨rfl, L8.since.mod.trans' md (fun _ _ h => h) (fun k hk hr => (L8.since.new k hr).elim (fun h => h) (fun h => by omega))⟩
                      | ok st3 =>
                        rw [hr9] at hpost
                        obtain ⟨rfl, m3, rm9, sp9⟩ := hpost
                        have hst := HST4.out
                        simp only [hr9] at hst
                        have HST5 := Lib.hid hst
                        have L9 := L8.step (ls' := { ls with st := st3 }) rm9 sp9 rfl rfl rfl
                        have hok := HOK.out _ hst
                        have q0 : 0 ≤ st3.depth - 1 := hok.1.st.d0
                        have q1 : st3.depth - 1 ≤ 64 := hok.1.st.d1
                        clear hst hr9 HST4 rm9 L8
                        have k4 : W9.cell? ⟨C.rb, 4, none⟩ = some (.int .i64 st3.depth) := L9.rm.blk.cell 4
                        have f4 : W9.frozen? ⟨C.rb, 4, none⟩ = false := Blk.frozen L9.rm.blk 4
                        have k8 : W9.cell? ⟨C.rb, 8, none⟩ = some (.bool st3.fresh) := L9.rm.blk.cell 8
                        have f8 : W9.frozen? ⟨C.rb, 8, none⟩ = false := Blk.frozen L9.rm.blk 8
                        have hl9 : C.rb < W9.heap.size := L9.rm.blk.lt
                        have o9 := L9.rm.ok
                        have o10 : StOk { st3 with depth := st3.depth - 1 } := ⟨o9.sets, o9.text, o9.out, q0, q1⟩
                        have L10 := (L9.poke 4 (.int .i64 (st3.depth - 1)) { st3 with depth := st3.depth - 1 } rfl rfl rfl rfl o10).poke 8 (.bool true) { st3 with depth := st3.depth - 1, fresh := true } rfl rfl rfl rfl o10.freshen
                        clear L9 o9 o10
                        go_wp2_with fail
                        have hst := HST5.out
                        have hlr : linesF C.L C.M rec tx g ⟨{ st3 with depth := st3.depth - 1, fresh := true }, ls.opens, kd.d, ls.pos + s.length + 1⟩ = lr := by rw [HS.out, hst]
                        go_roundg g
                        case measure => omega
                        case rel => exact ⟨_, _, m3, ⟨{ st3 with depth := st3.depth - 1, fresh := true }, ls.opens, kd.d, ls.pos + s.length + 1⟩, by go_num, by show ls.pos + s.length + 1 ≤ len; omega, by show len + 1 ≤ g + (ls.pos + s.length + 1); omega, by rw [hok.2.2.2]; omega, by rw [hok.2.2.2]; show ls.st.line + 1 ≤ ((ls.pos + s.length + 1 : Nat) : Int); omega, ⟨L10.rm, L10.box, rfl, L10.kin, L10.row, L10.opens, L10.oin, L10.since, L10.kB⟩, Lib.hid hok.1, Lib.hid hlr⟩
          · -- #if
            rw [Bool.and_eq_true, decide_eq_true_eq] at hc1
            have hst := HST.out
            rw [if_pos hc1] at hst
            have HST1 := Lib.hid hst
            clear hst HST
            obtain ⟨rfl, rfl⟩ := hc1
            have hset := set_any (C.at' w.heap.size u8) ⟨HC.out.names, HC.out.nlen, HC.out.files, HC.out.texts, HC.out.nlen2⟩ m1 _ rs (by omega) wc L5.rm
            change Calls Tryz.prog 136 #[.pointer (some ⟨C.rb, 0, none⟩), str rs] wc (SetPost wc (setF C.L rs { ls.st with line := ls.st.line + 1 })) at hset
            cases hd1 : setF C.L rs { ls.st with line := ls.st.line + 1 } with
            | error p =>
              rw [hd1] at hset
              have hst := HST1.out
              rw [hd1] at hst
              have hlr : lr = .error p := by rw [HS.out, hst]
              have HLR := Lib.hid hlr
              clear hst hlr hd1
              go_wp2_with fail
              refine hset.mono ?_
              rintro e W6 ⟨rfl, b6⟩
              refine ⟨rfl, ?_⟩
              rw [HR.out, HLR.out]
              exact ⟨rfl, (L5.below b6).since.mod⟩
            | ok d =>
              rw [hd1] at hset
              have hst := HST1.out
              rw [hd1] at hst
              have HST2 := Lib.hid hst
              have hsm := (setF_ok HC.out.names hd1).2.2
              clear hst hd1 HST1
              go_wp2_with fail
              refine hset.mono ?_
              rintro e W6 ⟨dA, dC, rfl, hdr, hdf, b6⟩
              have L6 := L5.below b6
              have din := L5.rm.fresh_in hdr hdf
              clear hset L5 hdr
              have L7 := L6.below ((Below.refl W6.heap.size W6).alloc (Nat.le_refl _) (.cells #[.slice dA d.nodes.length dC, .int .i64 d.root] 42))
              have bx7 : Blk (W6.alloc (.cells #[.slice dA d.nodes.length dC, .int .i64 d.root] 42)) W6.heap.size _ 42 := Blk.new W6 #[.slice dA d.nodes.length dC, .int .i64 d.root] 42
              have dn7 := din.step (Stp.of_below (C := C.at' w.heap.size u8) (m := m1) ((Below.refl W6.heap.size W6).alloc (Nat.le_refl _) (.cells #[.slice dA d.nodes.length dC, .int .i64 d.root] 42)))
              have hw6 : ∀ k, RSet C m1 k → k ≠ W6.heap.size := fun k hk e => by have := L6.rm.lt hk; omega
              have hdp := deeper_any (C.at' w.heap.size u8) m1 _ _ L7.rm
              change Calls Tryz.prog 137 #[.pointer (some ⟨C.rb, 0, none⟩)] _ (StPost (C.at' w.heap.size u8) m1 _ (deepF { ls.st with line := ls.st.line + 1 })) at hdp
              go_wp2_with fail
              generalize hW7 : W6.alloc (.cells #[.slice dA d.nodes.length dC, .int .i64 d.root] 42) = W7 at *
              refine hdp.mono ?_
              rintro e W8 hpost
              clear hdp
              cases hdf2 : deepF { ls.st with line := ls.st.line + 1 } with
              | error p =>
                rw [hdf2] at hpost
                obtain ⟨rfl, md⟩ := hpost
                have hst := HST2.out
                rw [hdf2] at hst
                refine ⟨rfl, ?_⟩
                have hlr : lr = .error p := by rw [HS.out, hst]
                rw [HR.out, hlr]
                exact ⟨rfl, L7.since.mod.trans' md (fun _ _ h => h) (fun k hk hr => (L7.since.new k hr).elim (fun h => h) (fun h => by omega))⟩
              | ok st2 =>
                rw [hdf2] at hpost
                obtain ⟨rfl, m2, rm8, sp8⟩ := hpost
                obtain ⟨-, hst2, -⟩ := deepF_ok hdf2 LO1.out
                have hst := HST2.out
                rw [hdf2] at hst
                have HST3 := Lib.hid hst
                have L8 := L7.step (ls' := { ls with st := st2 }) rm8 sp8 rfl rfl rfl
                have bx8 := bx7.mod sp8.mod (fun hk => hw6 _ hk rfl)
                have dn8 := dn7.step sp8
                clear hst hdf2 HST2 rm8 bx7 dn7 L7 din L6 hW7 hw6 hdf
                have hspl := split_any C.rb kd ⟨d, dA, dC⟩ (by rw [L8.hk]; exact LO.out.k) hsm W8 L8.kin.rd dn8.rd
                have k0 : W8.cell? ⟨w.heap.size, 0, none⟩ = _ := L8.box.cell 0
                have k1 : W8.cell? ⟨w.heap.size, 1, none⟩ = _ := L8.box.cell 1
                have d0 := bx8.cell 0
                have d1 := bx8.cell 1
                have hkl := L8.box.lt
                have hdl := bx8.lt
                simp at k0 k1 d0 d1
                simp only [DA.val] at hspl
                go_wp2_with fail
                refine hspl.mono ?_
                clear hspl
                rintro e W9 ⟨a1, p1, a2, p2, rfl, r1, r2, fa1, fa2, b9⟩
                have in1 := L8.rm.fresh_in r1 fa1
                have in2 := L8.rm.fresh_in r2 fa2
                have L9 := L8.below b9
                have b10 : Below W9.heap.size W9 ((W9.alloc (.cells #[.slice a1 (andD kd.d d).nodes.length p1, .int .i64 (andD kd.d d).root] 42)).alloc (.cells #[.slice a2 (andD kd.d (notD d)).nodes.length p2, .int .i64 (andD kd.d (notD d)).root] 42)) := ((Below.refl _ _).alloc (Nat.le_refl _) _).alloc (by simp) _
                have L10 := L9.below b10
                have jn1 := in1.step (Stp.of_below (C := C.at' w.heap.size u8) (m := m2) b10)
                have jn2 := in2.step (Stp.of_below (C := C.at' w.heap.size u8) (m := m2) b10)
                have x1 := (Blk.new W9 #[.slice a1 (andD kd.d d).nodes.length p1, .int .i64 (andD kd.d d).root] 42).alloc (.cells #[.slice a2 (andD kd.d (notD d)).nodes.length p2, .int .i64 (andD kd.d (notD d)).root] 42)
                have x2 := Blk.new (W9.alloc (.cells #[.slice a1 (andD kd.d d).nodes.length p1, .int .i64 (andD kd.d d).root] 42)) #[.slice a2 (andD kd.d (notD d)).nodes.length p2, .int .i64 (andD kd.d (notD d)).root] 42
                simp only [World.size_alloc] at x2
                clear in1 in2 r1 r2 fa1 fa2 k0 k1 d0 d1 hkl hdl bx8 dn8 L8
                go_upto_region 18 with fail
                have hsz9 : ((W9.alloc (.cells #[.slice a1 (andD kd.d d).nodes.length p1, .int .i64 (andD kd.d d).root] 42)).alloc (.cells #[.slice a2 (andD kd.d (notD d)).nodes.length p2, .int .i64 (andD kd.d (notD d)).root] 42)).heap.size = W9.heap.size + 1 + 1 := by simp
                generalize ((W9.alloc (.cells #[.slice a1 (andD kd.d d).nodes.length p1, .int .i64 (andD kd.d d).root] 42)).alloc (.cells #[.slice a2 (andD kd.d (notD d)).nodes.length p2, .int .i64 (andD kd.d (notD d)).root] 42)) = WA at *
                obtain ⟨oa, oc, hov⟩ := L10.row.form
                subst hov
                have hO : O.length ≤ 64 := by
                  have h1 := congrArg List.length L10.opens
                  have h2 := LO.out.depth
                  have h3 := LO.out.st.d1
                  have h4 := D0.out
                  simp at h1
                  omega
                have g0 : WA.cell? ⟨w.heap.size, 0, none⟩ = _ := L10.box.cell 0
                have g1 : WA.cell? ⟨w.heap.size, 1, none⟩ = _ := L10.box.cell 1
                have g2 := x2.cell 0
                have g3 := x2.cell 1
                have g4 : WA.cell? ⟨C.rb, 10, none⟩ = some (.int .i64 (ls.st.line + 1)) := by have := L10.rm.blk.cell 10; rw [hst2] at this; exact this
                have gl0 := L10.box.lt
                have gl1 := x2.lt
                have gl2 : C.rb < WA.heap.size := L10.rm.blk.lt
                have hB0 : w.heap.size ≤ WA.heap.size := L10.since.mod.size
                simp at g0 g1 g2 g3
                have GA := Lib.hid L10
                go_cut [8] (fun v wx => ∃ g' cap, v = .slice (some ⟨g', 0, none⟩) (O.length + 1) cap ∧ LM C m w w.heap.size (.slice (some ⟨g', 0, none⟩) (O.length + 1) cap) (O ++ [⟨kd, ⟨andD kd.d (notD d), a2, p2⟩, false, ls.st.line + 1⟩]) kd m2 ⟨st2, ls.opens ++ [⟨kd.d, andD kd.d (notD d), false, ls.st.line + 1⟩], ls.k, ls.pos⟩ wx ∧
                  Blk wx W9.heap.size #[.slice a1 (andD kd.d d).nodes.length p1, .int .i64 (andD kd.d d).root] 42 ∧ InR (ASet (C.at' w.heap.size (.slice (some ⟨g', 0, none⟩) (O.length + 1) cap)) m2) wx a1 (brCells (andD kd.d d).nodes))
                case first =>
                  go_region_law ((refine step_append_row rowSec (by rfl) _ _ (by rfl) w.heap.size (.slice oa O.length oc) O ⟨kd, ⟨andD kd.d (notD d), a2, p2⟩, false, ls.st.line + 1⟩ (by rfl) ((L10.row.alloc _).drew) WA.heap.size (by go_simp) (Blk.new WA _ _).drew (by omega) (by simp; omega) (WA.heap.size + 1) (by simp) ?_; intro g' cap w1 hown1 hgrow hat hlt1))
                  all_goals
                    go_wp2_with fail
                    go_meet
                    have hmm : Mod (fun k => (Value.slice oa O.length oc).ownBlock = some k) WA w1 := (((Mod.refl _ WA).alloc _).drew).grown hgrow (fun k e _ => e)
                    have hgg : (Value.slice oa O.length oc).ownBlock = some g' ∨ WA.heap.size ≤ g' := hat.imp id (fun e => by omega)
                    have hL := GA.out
                    exact ⟨g', cap, rfl, hL.push _ hown1 hmm hgg hL.kin jn2 rfl rfl rfl, x1.mod hmm (fun e => hL.row.ne_blk e x1 (by decide) rfl), hL.pushIn hown1 hmm hgg jn1⟩
                case rest =>
                  obtain ⟨g', cap, rfl, L11, y1, in11⟩ := hcut
                  clear GA jn1 jn2 x1 x2 g0 g1 g2 g3 g4 gl0 gl1 gl2 L10 L9
                  have z0 := y1.cell 0
                  have z1 := y1.cell 1
                  have zl := y1.lt
                  have kl := L11.box.lt
                  have kf0 := L11.box.frozen 0
                  have kf1 := L11.box.frozen 1
                  have k0 : wc.cell? ⟨w.heap.size, 0, none⟩ = _ := L11.box.cell 0
                  have k1 : wc.cell? ⟨w.heap.size, 1, none⟩ = _ := L11.box.cell 1
                  have r8 : wc.cell? ⟨C.rb, 8, none⟩ = some (.bool st2.fresh) := L11.rm.blk.cell 8
                  have rf8 : wc.frozen? ⟨C.rb, 8, none⟩ = false := Blk.frozen L11.rm.blk 8
                  have rl := L11.rm.blk.lt
                  have o2 := L11.rm.ok
                  have L12 := (L11.setk (ls' := ⟨st2, ls.opens ++ [⟨kd.d, andD kd.d (notD d), false, ls.st.line + 1⟩], andD kd.d d, ls.pos⟩) ⟨andD kd.d d, a1, p1⟩ in11 rfl rfl rfl).poke 8 (.bool true) { st2 with fresh := true } rfl rfl rfl rfl o2.freshen
                  simp at z0 z1 k0 k1
                  clear L11 in11 y1 o2
                  go_wp2_with fail
                  have hst := HST3.out
                  have hok := HOK.out _ hst
                  have hlr : linesF C.L C.M rec tx g ⟨{ st2 with fresh := true }, ls.opens ++ [⟨kd.d, andD kd.d (notD d), false, ls.st.line + 1⟩], andD kd.d d, ls.pos + s.length + 1⟩ = lr := by rw [HS.out, hst]
                  go_roundg g
                  case measure => omega
                  case rel => exact ⟨_, _, m2, ⟨{ st2 with fresh := true }, ls.opens ++ [⟨kd.d, andD kd.d (notD d), false, ls.st.line + 1⟩], andD kd.d d, ls.pos + s.length + 1⟩, by go_num, by show ls.pos + s.length + 1 ≤ len; omega, by show len + 1 ≤ g + (ls.pos + s.length + 1); omega, by rw [hok.2.2.2]; omega, by rw [hok.2.2.2]; show ls.st.line + 1 ≤ ((ls.pos + s.length + 1 : Nat) : Int); omega, ⟨L12.rm, L12.box, L12.hk, L12.kin, L12.row, L12.opens, L12.oin, L12.since, L12.kB⟩, Lib.hid hok.1, Lib.hid hlr⟩
      · as_aux_lemma =>
          -- the end of the file
          have hll : lr = .ok ls := by
            rw [← HLN.out]
            cases gk with
            | zero => rfl
            | succ g =>
              show (if _ then _ else _) = _
              rw [if_neg (by rw [HLEN.out]; omega)]
          have HLR := Lib.hid hll
          clear HLN hll
          obtain ⟨oa, oc, hov⟩ := L.row.form
          subst hov
          have hO : O.length ≤ 64 := by
            have h1 := congrArg List.length L.opens
            have h2 := LO.out.depth
            have h3 := LO.out.st.d1
            have h4 := D0.out
            simp at h1
            omega
          by_cases hne : ls.opens = []
          · have hOn : O = [] := by
              have h1 := L.opens
              rw [hne] at h1
              simpa using h1
            subst hOn
            have hres := HR.out
            rw [HLR.out] at hres
            simp only [hne, List.getLast?_nil] at hres
            have HRES := Lib.hid hres
            clear hres
            have c2 : wr.cell? ⟨C.rb, 3, none⟩ = some (.map (some C.bm)) := L.rm.blk.cell 3
            have hlt1 : C.rb < wr.heap.size := L.rm.blk.lt
            have hrd : MapAt (Value.int .i64) Value.bool wr C.bm ls.st.reading := L.rm.reading
            have hli : (tx.length : Int) ≤ (ls.pos : Int) := by rw [HLEN.out]; omega
            go_wp2_with (at_delete; refine wpList_delete_at (by rfl) _ _ 119 3 (by rfl) 4 Tryz.underlying119 key_int C.bm ls.st.reading (by go_simp) hrd (i : Int) (by go_simp) ?_)
            intro w1 hr1 hm1 hs1
            have r1 := L.rm.mapped _ hr1 hm1
            have L1 := L.step (ls' := ⟨_, [], ls.k, ls.pos⟩) r1.1 r1.2 rfl hne.symm rfl
            have o1 := L1.rm.ok
            have L2 := ((L1.poke 9 (.int .i64 st.file) { ls.st with reading := adel ls.st.reading (i : Int), file := st.file } rfl rfl rfl rfl ⟨o1.sets, o1.text, o1.out, o1.d0, o1.d1⟩).poke 10 (.int .i64 st.line) { ls.st with reading := adel ls.st.reading (i : Int), file := st.file, line := st.line } rfl rfl rfl rfl ⟨o1.sets, o1.text, o1.out, o1.d0, o1.d1⟩).poke 8 (.bool true) { ls.st with reading := adel ls.st.reading (i : Int), file := st.file, line := st.line, fresh := true } rfl rfl rfl rfl ⟨o1.sets, o1.text, o1.out, o1.d0, o1.d1⟩
            have k2 : Blk w1 C.rb _ 124 := L1.rm.blk
            have f9 := k2.frozen 9
            have f10 := k2.frozen 10
            have f8 := k2.frozen 8
            have e9 : w1.cell? ⟨C.rb, 9, none⟩ = some (.int .i64 ls.st.file) := k2.cell 9
            have e10 : w1.cell? ⟨C.rb, 10, none⟩ = some (.int .i64 ls.st.line) := k2.cell 10
            have e8 : w1.cell? ⟨C.rb, 8, none⟩ = some (.bool ls.st.fresh) := k2.cell 8
            have hlt2 : C.rb < w1.heap.size := k2.lt
            clear k2 r1 L1 hm1 hr1 hs1 o1
            go_wp2_with fail
            refine bodyPost_ret (v := .tuple #[]) (by simp [results, Tryz.results73, go_sem]) rfl ?_
            rw [HRES.out]
            exact ⟨rfl, m1, L2.rm.less (fun k hk => .inl hk), L2.since⟩
          · obtain ⟨D, x, g', cap, rfl, hv, hx⟩ := L.last hne
            have hl2 : (D ++ [x]).length = D.length + 1 := by simp
            rw [hl2] at L hO hv ⊢
            obtain ⟨rfl, -, rfl⟩ := Value.slice.inj hv
            clear hv hl2
            have hres := HR.out
            rw [HLR.out] at hres
            simp only [hx] at hres
            have HRES := Lib.hid hres
            clear hres
            obtain ⟨cur, hcb, hcc⟩ := L.row.lastCells
            have hli : (tx.length : Int) ≤ (ls.pos : Int) := by rw [HLEN.out]; omega
            have q5 : wr.cell? ⟨g', D.length * 6 + 5, none⟩ = some (.int .i64 x.line) := by rw [hcb.cell]; exact hcc 5 (by omega)
            have ql := hcb.lt
            have c10 : wr.cell? ⟨C.rb, 10, none⟩ = some (.int .i64 ls.st.line) := L.rm.blk.cell 10
            have f10 : wr.frozen? ⟨C.rb, 10, none⟩ = false := Blk.frozen L.rm.blk 10
            have hlt1 : C.rb < wr.heap.size := L.rm.blk.lt
            have o1 := L.rm.ok
            have L1 := L.poke 10 (.int .i64 x.line) { ls.st with line := x.line } rfl rfl rfl rfl ⟨o1.sets, o1.text, o1.out, o1.d0, o1.d1⟩
            have fl := L1.rm.fails 72
            change Calls Tryz.prog 140 #[.pointer (some ⟨C.rb, 0, none⟩), .int .i64 72] _ _ at fl
            clear o1 hcb hcc hx
            go_wp2_with fail
            refine fl.mono ?_
            rintro e w2 ⟨rfl, mm⟩
            refine ⟨rfl, ?_⟩
            rw [HRES.out]
            exact ⟨rfl, L1.since.mod.trans' mm (fun _ _ h => h) (fun _ _ h => h.elim)⟩
end Go.Proofs.YtpekmohnjpbkgaaGreatDoor
