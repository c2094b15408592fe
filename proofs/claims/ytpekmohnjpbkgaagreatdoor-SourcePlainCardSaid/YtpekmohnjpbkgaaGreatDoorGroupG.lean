/- Words of an expression, as lists of bytes; without a program. formula.identifier. formula.numbers. The reader of expressions: skip, put. Expressions as the program reads them: plain functions on lists of bytes. -/
import Derived.Shelf.GgClosure.StringsIndexFuncTop
import Derived.Laws.RangeAny
import Derived.Lib.Hide
import Derived.Test.YtpekmohnjpbkgaaGreatDoorShelf
import Derived.Test.YtpekmohnjpbkgaaGreatDoorGroupE
import Derived.Deep.CutBlock
import Derived.Deep.DeepCutAuto
import Derived.Shelf.Strings.SlTrimAscii
import Derived.StillTailTactics
namespace Go.Proofs.YtpekmohnjpbkgaaGreatDoor
open Go Go.RowKit

def isWord (b : UInt8) : Bool := b.toNat == 95 || (97 ≤ b.toNat && b.toNat ≤ 122) || (65 ≤ b.toNat && b.toNat ≤ 90) || (48 ≤ b.toNat && b.toNat ≤ 57)
def notWord (r : Nat) : Bool := !(r == 95 || (97 ≤ r && r ≤ 122) || (65 ≤ r && r ≤ 90) || (48 ≤ r && r ≤ 57))
def wordLen : List UInt8 → Nat
  | [] => 0
  | b :: l => if isWord b then wordLen l + 1 else 0
def isDigit (b : UInt8) : Bool := 48 ≤ b.toNat && b.toNat ≤ 57
def identLen : List UInt8 → Nat
  | [] => 0
  | b :: l => if isDigit b then 0 else wordLen (b :: l)

theorem wordLen_le (l : List UInt8) : wordLen l ≤ l.length := by
  induction l with
  | nil => simp [wordLen]
  | cons b l ih => simp only [wordLen]; split <;> simp; omega

theorem wordLen_yes {b : UInt8} {l : List UInt8} (h : isWord b = true) : wordLen (b :: l) = wordLen l + 1 := by simp [wordLen, h]
theorem wordLen_no {b : UInt8} {l : List UInt8} (h : isWord b = false) : wordLen (b :: l) = 0 := by simp [wordLen, h]

theorem idx_word (s : ByteArray) : ∀ (f pos : Nat), s.size ≤ pos + f → pos ≤ s.size → Go.Lib.idxFuncFrom notWord true s f pos = if pos + wordLen (s.data.toList.drop pos) < s.size then ((pos + wordLen (s.data.toList.drop pos) : Nat) : Int) else -1 := by
  have hsz : s.data.toList.length = s.size := by simp
  intro f
  induction f with
  | zero =>
    intro pos h1 h2
    have : pos = s.size := by omega
    subst this
    rw [if_neg (by omega)]
    rfl
  | succ f ih =>
    intro pos h1 h2
    by_cases hp : pos < s.size
    · have hl : pos < s.data.toList.length := by omega
      have hd : s.data.toList.drop pos = s[pos]'hp :: s.data.toList.drop (pos + 1) := by
        rw [List.drop_eq_getElem_cons hl]
        congr 1
      rw [hd]
      have e : Go.Lib.idxFuncFrom notWord true s (f + 1) pos = if notWord (Utf8.decode s pos).1 = true then (pos : Int) else Go.Lib.idxFuncFrom notWord true s f (pos + (Utf8.decode s pos).2) := by
        show (if pos < s.size then _ else _) = _
        rw [if_pos hp]
      rw [e]
      by_cases ha : (s[pos]'hp).toNat < 128
      · have hdec := decode_ascii s pos hp ha
        have hn : notWord (Utf8.decode s pos).1 = !isWord (s[pos]'hp) := by rw [hdec]; rfl
        by_cases hw : isWord (s[pos]'hp) = true
        · rw [wordLen_yes hw, if_neg (by rw [hn, hw]; decide), hdec]
          simp only
          rw [ih (pos + 1) (by omega) (by omega)]
          have e2 : pos + 1 + wordLen (s.data.toList.drop (pos + 1)) = pos + (wordLen (s.data.toList.drop (pos + 1)) + 1) := by omega
          rw [e2]
        · have hw : isWord (s[pos]'hp) = false := by simpa using hw
          rw [wordLen_no hw, if_pos (by rw [hn, hw]; decide), if_pos (by omega)]
          rfl
      · obtain ⟨h3, h4⟩ := decode_high s pos hp (by omega)
        have hn : notWord (Utf8.decode s pos).1 = true := by simp [notWord]; omega
        have hw : isWord (s[pos]'hp) = false := by simp [isWord]; omega
        rw [wordLen_no hw, if_pos hn, if_pos (by omega)]
        rfl
    · have : pos = s.size := by omega
      subst this
      rw [if_neg (by omega)]
      show (if s.size < s.size then _ else _) = _
      rw [if_neg hp]

theorem idxFunc_word (l : List UInt8) : Go.Lib.idxFunc notWord true ⟨l.toArray⟩ = if wordLen l < l.length then (wordLen l : Int) else -1 := by
  have h := idx_word ⟨l.toArray⟩ (ByteArray.size ⟨l.toArray⟩) 0 (by omega) (by omega)
  simpa [Go.Lib.idxFunc, ByteArray.size] using h
end Go.Proofs.YtpekmohnjpbkgaaGreatDoor

namespace Go.Proofs.YtpekmohnjpbkgaaGreatDoor
open Go Go.RowKit
set_option maxHeartbeats 1000000
set_option maxRecDepth 100000
attribute [local go_sem ↓] Go.wp_at_zero Go.wp_at_succ


theorem notWord_any (x : Nat) (w : World) : Calls Tryz.prog 239 #[.int .i32 (x : Int)] w fun e w' => e = .returned (.bool (notWord x)) ∧ w' = w := by
  have key : ∀ b : Bool, notWord x = b → (x < 48 ∨ (48 ≤ x ∧ x ≤ 57) ∨ (57 < x ∧ x < 65) ∨ (65 ≤ x ∧ x ≤ 90) ∨ (90 < x ∧ x < 95) ∨ x = 95 ∨ x = 96 ∨ (97 ≤ x ∧ x ≤ 122) ∨ 122 < x) := fun _ _ => by omega
  rcases key _ rfl with h | h | h | h | h | h | h | h | h
  · have e : notWord x = true := by simp [notWord]; omega
    have c95 : ((x : Int) != 95) = true := by simp; omega
    rw [e]
    clear key e
    go_enter Tryz.func239, Tryz.ntmps239
    go_wp2
    go_ret
    exact ⟨by (show Ending.returned (.bool _) = Ending.returned (.bool _)); first | rfl | (refine congrArg (fun b => Ending.returned (.bool b)) ?_; first | (rw [Bool.eq_false_iff]; simp; omega) | (simp; omega)), rfl⟩
  · have e : notWord x = false := by simp [notWord]; omega
    have c95 : ((x : Int) != 95) = true := by simp; omega
    rw [e]
    clear key e
    go_enter Tryz.func239, Tryz.ntmps239
    go_wp2
    go_ret
    exact ⟨by (show Ending.returned (.bool _) = Ending.returned (.bool _)); first | rfl | (refine congrArg (fun b => Ending.returned (.bool b)) ?_; first | (rw [Bool.eq_false_iff]; simp; omega) | (simp; omega)), rfl⟩
  · have e : notWord x = true := by simp [notWord]; omega
    have c95 : ((x : Int) != 95) = true := by simp; omega
    rw [e]
    clear key e
    go_enter Tryz.func239, Tryz.ntmps239
    go_wp2
    go_ret
    exact ⟨by (show Ending.returned (.bool _) = Ending.returned (.bool _)); first | rfl | (refine congrArg (fun b => Ending.returned (.bool b)) ?_; first | (rw [Bool.eq_false_iff]; simp; omega) | (simp; omega)), rfl⟩
  · have e : notWord x = false := by simp [notWord]; omega
    have c95 : ((x : Int) != 95) = true := by simp; omega
    rw [e]
    clear key e
    go_enter Tryz.func239, Tryz.ntmps239
    go_wp2
    go_ret
    exact ⟨by (show Ending.returned (.bool _) = Ending.returned (.bool _)); first | rfl | (refine congrArg (fun b => Ending.returned (.bool b)) ?_; first | (rw [Bool.eq_false_iff]; simp; omega) | (simp; omega)), rfl⟩
  · have e : notWord x = true := by simp [notWord]; omega
    have c95 : ((x : Int) != 95) = true := by simp; omega
    rw [e]
    clear key e
    go_enter Tryz.func239, Tryz.ntmps239
    go_wp2
    go_ret
    exact ⟨by (show Ending.returned (.bool _) = Ending.returned (.bool _)); first | rfl | (refine congrArg (fun b => Ending.returned (.bool b)) ?_; first | (rw [Bool.eq_false_iff]; simp; omega) | (simp; omega)), rfl⟩
  · subst h
    go_enter Tryz.func239, Tryz.ntmps239
    go_wp2
    go_ret
    exact ⟨by (show Ending.returned (.bool _) = Ending.returned (.bool _)); first | rfl | (refine congrArg (fun b => Ending.returned (.bool b)) ?_; first | (rw [Bool.eq_false_iff]; simp; omega) | (simp; omega)), rfl⟩
  · have e : notWord x = true := by simp [notWord]; omega
    have c95 : ((x : Int) != 95) = true := by simp; omega
    rw [e]
    clear key e
    go_enter Tryz.func239, Tryz.ntmps239
    go_wp2
    go_ret
    exact ⟨by (show Ending.returned (.bool _) = Ending.returned (.bool _)); first | rfl | (refine congrArg (fun b => Ending.returned (.bool b)) ?_; first | (rw [Bool.eq_false_iff]; simp; omega) | (simp; omega)), rfl⟩
  · have e : notWord x = false := by simp [notWord]; omega
    have c95 : ((x : Int) != 95) = true := by simp; omega
    rw [e]
    clear key e
    go_enter Tryz.func239, Tryz.ntmps239
    go_wp2
    go_ret
    exact ⟨by (show Ending.returned (.bool _) = Ending.returned (.bool _)); first | rfl | (refine congrArg (fun b => Ending.returned (.bool b)) ?_; first | (rw [Bool.eq_false_iff]; simp; omega) | (simp; omega)), rfl⟩
  · have e : notWord x = true := by simp [notWord]; omega
    have c95 : ((x : Int) != 95) = true := by simp; omega
    rw [e]
    clear key e
    go_enter Tryz.func239, Tryz.ntmps239
    go_wp2
    go_ret
    exact ⟨by (show Ending.returned (.bool _) = Ending.returned (.bool _)); first | rfl | (refine congrArg (fun b => Ending.returned (.bool b)) ?_; first | (rw [Bool.eq_false_iff]; simp; omega) | (simp; omega)), rfl⟩

theorem pred_notWord (w : World) : PredAt Tryz.prog 239 #[] encR notWord w :=
  fun W x _ => (notWord_any x W).mono fun e w' h => ⟨h.1, 0, by rw [h.2]; rfl⟩

theorem identifier_any (l : List UInt8) (hl : l.length ≤ 1099511627776) (w : World) : Calls Tryz.prog 189 #[str l] w fun e w' => e = .returned (.int .i64 (identLen l)) ∧ Below w.heap.size w w' := by
  have hx := Tryz.strings_IndexFunc 239 #[] (fun _ _ => by kernel_rfl) notWord ⟨l.toArray⟩ w (pred_notWord w)
  rw [idxFunc_word] at hx
  cases l with
  | nil =>
    go_enter Tryz.func189, Tryz.ntmps189
    go_wp2_with fail
    refine hx.mono ?_
    rintro e w1 ⟨rfl, b1⟩
    go_wp2_with fail
    go_ret
    exact ⟨rfl, b1⟩
  | cons b l =>
    have hi : identLen (b :: l) = if 48 ≤ b.toNat ∧ b.toNat ≤ 57 then 0 else wordLen (b :: l) := by simp [identLen, isDigit]
    have HI := Lib.hid hi
    have hwl := wordLen_le (b :: l)
    rw [List.length_cons] at hwl
    have hb : ∀ p, (({ data := (b :: l).toArray } : ByteArray)[0]'p) = b := fun _ => rfl
    have HB := Lib.hid hb
    clear hi hb
    go_enter Tryz.func189, Tryz.ntmps189
    go_wp2_with fail
    refine hx.mono ?_
    clear hx
    rintro e w1 ⟨rfl, b1⟩
    go_wp2_with fail
    all_goals
      have hb := HB.out
      have hi := HI.out
      clear HB HI
      simp only [hb] at *
      go_ret
      refine ⟨?_, b1⟩
      show Ending.returned (.int .i64 _) = _
      refine congrArg (fun n => Ending.returned (Value.int .i64 n)) ?_
      rw [hi]
      split <;> omega
end Go.Proofs.YtpekmohnjpbkgaaGreatDoor

namespace Go.Proofs.YtpekmohnjpbkgaaGreatDoor
open Go Go.RowKit
set_option maxHeartbeats 1000000
set_option maxRecDepth 100000
attribute [local go_sem ↓] Go.wp_at_zero Go.wp_at_succ

theorem str_inj (x y : List UInt8) (h : str x = str y) : x = y := by
  have h1 := Value.string.inj h
  have h2 := congrArg ByteArray.data h1
  have h3 := congrArg Array.toList h2
  simpa using h3
theorem key_str : KeyTy Tryz.prog 9 str := by
  refine KeyTy.of_now Tryz.underlying9 (fun x => ?_) str_inj (fun x => ?_)
  · simp [Go.MapKept.IsKey]
  · show Instr.sameBits 10000 (.string _) (.string _) = true
    simp only [Instr.sameBits]
    exact (Go.MapKept.bytes_beq _ _).2 rfl

def sTrue : List UInt8 := [116, 114, 117, 101]
def sFalse : List UInt8 := [102, 97, 108, 115, 101]
def okName (s : List UInt8) : Bool := decide (s ≠ []) && decide (identLen s = s.length) && decide (s ≠ sTrue) && decide (s ≠ sFalse)
def numG : List (List UInt8) → Nat → List (List UInt8 × Int) → List (List UInt8 × Int)
  | [], _, m => m
  | s :: l, k, m => numG l (k + 1) (aset m s k)

theorem MapAt.len {K V : Type} [DecidableEq K] {kv : K → Value} {vv : V → Value} {w : World} {b : Nat} {m : List (K × V)} (h : MapAt kv vv w b m) {t : TypeId} (ht : Tryz.prog.underlying t = some (.map (Tryz.prog.mapKeyOf t) (Tryz.prog.mapElemOf t))) (ty : TypeId) :
    (Builtin.len_ #[t] ty #[.map (some b)]).run Tryz.prog w = .ok (.int .i64 m.length) w := by
  obtain ⟨_, es, c, hb, h1, _⟩ := h
  rw [Go.run_len_map (w := w) t ty b es c ht hb]
  have : es.size = m.length := by
    have := congrArg List.length h1
    simpa using this
  rw [this]
  rfl

/-- What numbers answers. -/
def NumPost (w : World) (L : List (List UInt8)) (e : Ending) (w' : World) : Prop :=
  Below w.heap.size w w' ∧
      if L.all okName = true then ∃ bm, e = .returned (.tuple #[.map (some bm), .bool (decide ((numG L 0 []).length = L.length) && decide (L.length ≤ 64))]) ∧ MapAt str (Value.int .i64) w' bm (numG L 0 []) ∧ w.heap.size ≤ bm
      else e = .returned (.tuple #[.map none, .bool false])

theorem numbers_any (L : List (List UInt8)) (hs : ∀ s ∈ L, s.length ≤ 1099511627776) (hl : L.length ≤ 1099511627776) (a : Option Addr) (cap : Nat) (w : World) (hr : Rd w a (L.map str)) :
    Calls Tryz.prog 130 #[.slice a L.length cap] w (NumPost w L) := by
  have hmm := @run_makeMap Tryz.prog
  have hm0 := MapAt.new (K := List UInt8) (V := Int) (kv := str) (vv := Value.int .i64) w
  have hb0 : Below w.heap.size w (w.alloc (.map #[] 0)) := (Below.refl _ _).alloc (Nat.le_refl _) _
  generalize hn : L.length = len at *
  have HN := Lib.hid hn
  clear hn
  go_enter Tryz.func130, Tryz.ntmps130
  go_wp2_with fail
  go_loopg [10, 5, 6] (len + 1) (fun k ct u5 u6 wr => ∃ i : Nat, i ≤ len ∧ k + i = len + 1 ∧ ct = .int .i64 i ∧ ∃ m, MapAt str (Value.int .i64) wr w.heap.size m ∧ Hid (numG (L.drop i) i m = numG L 0 []) ∧ Hid (L.all okName = (L.drop i).all okName) ∧ Below w.heap.size w wr)
  case atStart => exact ⟨0, Nat.zero_le _, rfl, rfl, [], hm0, rfl, rfl, hb0⟩
  case round =>
    obtain ⟨i, hi, hk, rfl, m, hm, HG, HA, hb⟩ := hrel
    by_cases hlt : i < len
    · obtain ⟨x, hx⟩ : ∃ x, L[i]? = some x := ⟨L[i]'(by have := HN.out; omega), List.getElem?_eq_getElem _⟩
      have hxs := hs x (List.mem_of_getElem? hx)
      have hrx := (hr.below hb) i (str x) (by rw [List.getElem?_map, hx]; rfl)
      obtain ⟨b1, o1, rfl, hb1, x0⟩ := hrx
      have HX := Lib.hid hx
      clear hx
      have i0 : (0 : Int) ≤ (i : Int) := by omega
      have i1 : (i : Int) < (len : Int) := by omega
      go_upto_region 5 with fail
      go_cut [31] (fun c wx => c = .bool (!okName x) ∧ Below wr.heap.size wr wx)
      case first =>
        cases x with
        | nil =>
          go_wp2_with fail
          go_meet
          exact ⟨rfl, Below.refl _ _⟩
        | cons y x =>
          have hI := identifier_any (y :: x) hxs wr
          by_cases h1 : identLen (y :: x) = (y :: x).length
          · have h1' : ((identLen (y :: x) : Int) != (x.length : Int) + 1) = false := by rw [h1]; simp
            have H1 := Lib.hid h1
            clear h1
            have hT : (y == 116 && x == [114, 117, 101]) = decide (y :: x = sTrue) := by rw [Bool.eq_iff_iff]; simp [sTrue]
            have hF : (y == 102 && x == [97, 108, 115, 101]) = decide (y :: x = sFalse) := by rw [Bool.eq_iff_iff]; simp [sFalse]
            have hI2 : Hid (okName (y :: x) = (!decide (y :: x = sTrue) && !decide (y :: x = sFalse))) := Lib.hid (by have := H1.out; simp only [okName]; simp [this])
            generalize decide (y :: x = sTrue) = q1 at *
            generalize decide (y :: x = sFalse) = q2 at *
            cases q1 <;> cases q2
            all_goals
              go_wp2_with fail
              refine hI.mono ?_
              rintro e w1 ⟨rfl, bb⟩
              go_wp2_with fail
              go_meet
              exact ⟨congrArg Value.bool (by rw [hI2.out]; rfl), bb⟩
          · have h1' : ((identLen (y :: x) : Int) != (x.length : Int) + 1) = true := by rw [bne_iff_ne]; rw [List.length_cons] at h1; omega
            have hI2 : Hid (okName (y :: x) = false) := Lib.hid (by simp only [okName]; rw [decide_eq_false h1]; simp)
            clear h1
            go_wp2_with fail
            refine hI.mono ?_
            rintro e w1 ⟨rfl, bb⟩
            go_wp2_with fail
            go_meet
            exact ⟨congrArg Value.bool (by rw [hI2.out]; rfl), bb⟩
      case rest =>
        obtain ⟨rfl, b5⟩ := hcut
        have b6 : Below w.heap.size w wc := hb.trans (b5.mono hb.size)
        have hm5 := hm.mod (Mod.of_below (S := fun _ => False) b5) (fun h => h)
        have hdr : L.drop i = x :: L.drop (i + 1) := by
          have h := HX.out
          obtain ⟨hi, rfl⟩ := List.getElem?_eq_some_iff.1 h
          exact List.drop_eq_getElem_cons hi
        have hg2 : numG L 0 [] = numG (L.drop (i + 1)) (i + 1) (aset m x i) := by rw [← HG.out, hdr]; rfl
        have ha2 : L.all okName = (okName x && (L.drop (i + 1)).all okName) := by rw [HA.out, hdr]; rfl
        have HG2 := Lib.hid hg2
        have HA2 := Lib.hid ha2
        clear hg2 ha2 hdr
        cases hok : okName x
        · have hall : L.all okName = false := by rw [HA2.out, hok]; rfl
          have HALL := Lib.hid hall
          clear hall hok
          go_wp2_with fail
          go_ret2
          refine ⟨b6, ?_⟩
          rw [HALL.out]
          exact rfl
        · have hall : L.all okName = (L.drop (i + 1)).all okName := by rw [HA2.out, hok]; rfl
          have HALL := Lib.hid hall
          clear hall hok
          go_wp2_with (at_mapUpdate; refine wpList_mapUpdate_at (by rfl) 118 _ _ _ (by rfl) 9 3 Tryz.underlying118 key_str w.heap.size m (by rfl) hm5 x (by rfl) (i : Int) (by rfl) ?_)
          intro w5 m2 m3 m4
          have M4 := Lib.hid m4
          clear m4
          go_wp2_with fail
          go_roundg (len - i)
          case measure => omega
          case rel => exact ⟨i + 1, by omega, by omega, by go_num, _, m2, HG2.out.symm, HALL.out, b6.trans (Mod.below (B := w.heap.size) m3 b6.size (fun k hk e => by omega))⟩
    · have hii : i = len := by omega
      subst hii
      have hd : L.drop i = [] := List.drop_of_length_le (by rw [HN.out]; exact Nat.le_refl _)
      have hg2 : m = numG L 0 [] := by rw [← HG.out, hd]; rfl
      have ha2 : L.all okName = true := by rw [HA.out, hd]; rfl
      subst hg2
      have HA2 := Lib.hid ha2
      clear ha2 hd HG HA
      have hln := fun ty => hm.len (t := 118) (by kernel_rfl) ty
      have HBp : Hid (NumPost w L (.returned (.tuple #[.map (some w.heap.size), .bool (decide ((numG L 0 []).length = i) && decide (i ≤ 64))])) wr) := by
        refine Lib.hid ⟨hb, ?_⟩
        rw [HA2.out, HN.out]
        exact ⟨_, rfl, hm, Nat.le_refl _⟩
      generalize (numG L 0 []).length = n0 at *
      by_cases hq : n0 = i
      · subst hq
        by_cases h64 : n0 ≤ 64
        · have h64i : decide ((n0 : Int) ≤ 64) = decide (n0 ≤ 64) := by rw [Bool.eq_iff_iff]; simp; omega
          have H6 := Lib.hid h64i
          clear h64i
          go_wp2_with fail
          go_ret2
          have := HBp.out
          have h6 := H6.out
          first | (rw [h6]; simpa using this) | (simp only [h6]; simpa using this) | (simpa [h64, h6] using this)
        · have h64i : decide ((n0 : Int) ≤ 64) = decide (n0 ≤ 64) := by rw [Bool.eq_iff_iff]; simp; omega
          have H6 := Lib.hid h64i
          clear h64i
          go_wp2_with fail
          go_ret2
          have := HBp.out
          have h6 := H6.out
          first | (rw [h6]; simpa using this) | (simp only [h6]; simpa using this) | (simpa [h64, h6] using this)
      · have hq' : ((n0 : Int) == (i : Int)) = false := by rw [beq_eq_false_iff_ne]; omega
        go_wp2_with fail
        go_ret2
        have := HBp.out
        simpa [hq] using this
end Go.Proofs.YtpekmohnjpbkgaaGreatDoor

namespace Go.Proofs.YtpekmohnjpbkgaaGreatDoor
open Go Go.RowKit
set_option maxHeartbeats 1000000
set_option maxRecDepth 100000
attribute [local go_sem ↓] Go.wp_at_zero Go.wp_at_succ

def trimL (l : List UInt8) : List UInt8 := Go.Lib.trimLeftS l [32, 9]
theorem trimL_le (l : List UInt8) : (trimL l).length ≤ l.length := by
  unfold trimL Go.Lib.trimLeftS
  generalize (fun x => ([32, 9] : List UInt8).contains x) = p
  induction l with
  | nil => simp
  | cons x l ih => rw [List.dropWhile_cons]; split <;> simp; omega

theorem trimLeft_any (l : List UInt8) (w : World) :
    Calls Tryz.prog 193 #[str l, .string ⟨#[32, 9]⟩] w fun e w' => e = .returned (str (trimL l)) ∧ Below w.heap.size w w' :=
  Any.strings_TrimLeft_laid Tryz.lays161 (by kernel_rfl) ⟨l.toArray⟩ ⟨#[32, 9]⟩ w (by decide) (ascii_of_all (by decide))

def skipF (sym rest : List UInt8) : Bool × List UInt8 := (Go.Lib.hasPrefix (trimL rest) sym, Go.Lib.trimPrefix (trimL rest) sym)

theorem cutPrefix_any (l p : List UInt8) (w : World) :
    Calls Tryz.prog 194 #[str l, str p] w fun e w' => e = .returned (.tuple #[str (Go.Lib.trimPrefix l p), .bool (Go.Lib.hasPrefix l p)]) ∧ w' = w :=
  Tryz.strings_CutPrefix ⟨l.toArray⟩ ⟨p.toArray⟩ w

theorem skip_any (rb mb : Nat) (rest sym : List UInt8) (fv : Value) (u : Bool) (w : World) (h : Blk w rb #[.map (some mb), str rest, fv, .bool u] 190) :
    Calls Tryz.prog 133 #[.pointer (some ⟨rb, 0, none⟩), str sym] w fun e w' => e = .returned (.bool (skipF sym rest).1) ∧ Blk w' rb #[.map (some mb), str (skipF sym rest).2, fv, .bool u] 190 ∧ Mod (fun k => k = rb) w w' := by
  have ht := trimLeft_any rest w
  have c1 := h.cell 1
  have hlt := h.lt
  simp at c1
  go_enter Tryz.func133, Tryz.ntmps133
  go_wp2_with fail
  refine ht.mono ?_
  rintro e w1 ⟨rfl, b1⟩
  have h1 := h.mod (Mod.of_below (S := fun _ => False) b1) (fun h => h)
  have d1 := h1.cell 1
  have f1 := h1.frozen 1
  have hlt1 := h1.lt
  simp at d1
  have hp := cutPrefix_any (trimL rest) sym
  go_wp2_with fail
  refine (hp _).mono ?_
  rintro e w2 ⟨rfl, rfl⟩
  go_wp2_with fail
  go_ret
  refine ⟨rfl, ?_, ?_⟩
  · have := (h1.setCell 1 (str (trimL rest))).setCell 1 (str (Go.Lib.trimPrefix (trimL rest) sym))
    simpa [skipF] using this
  · exact (((Mod.of_below (S := fun k => k = rb) b1).setCell (p := ⟨rb, 1, none⟩) (.inl rfl) _).setCell (p := ⟨rb, 1, none⟩) (.inl rfl) _)

/-- The reader of an expression, in memory. -/
structure RW (base rb mb : Nat) (M : List (List UInt8 × Int)) (w : World) (fv : Value) (F : List FN) (rest : List UInt8) (u : Bool) : Prop where
  blk : Blk w rb #[.map (some mb), str rest, fv, .bool u] 190
  own : Own 309 4 FN.cells base w fv F
  map : MapAt str (Value.int .i64) w mb M
  hr : base ≤ rb
def RS (rb : Nat) (fv : Value) (k : Nat) : Prop := k = rb ∨ fv.ownBlock = some k

structure RPost (base rb mb : Nat) (M : List (List UInt8 × Int)) (w : World) (fv : Value) (F : List FN) (rest : List UInt8) (u : Bool) (w' : World) (fv' : Value) : Prop where
  rw : RW base rb mb M w' fv' F rest u
  mod : Mod (RS rb fv) w w'
  new : ∀ g, fv'.ownBlock = some g → fv.ownBlock = some g ∨ w.heap.size ≤ g

section
variable {base rb mb : Nat} {M : List (List UInt8 × Int)} {w : World} {fv : Value} {F : List FN} {rest : List UInt8} {u : Bool}
theorem RW.notS (h : RW base rb mb M w fv F rest u) {k : Nat} {c : Array Value} {e : TypeId} (hk : Blk w k c e) (h1 : e ≠ 190) (h2 : e ≠ 309) : ¬ RS rb fv k := by
  rintro (rfl | e)
  · exact hk.ne h.blk h1 rfl
  · exact h.own.ne_blk e hk h2 rfl
theorem RW.drop (h : RW base rb mb M w fv F rest u) {rest' : List UInt8} {w' : World} (hb : Blk w' rb #[.map (some mb), str rest', fv, .bool u] 190) (hm : Mod (fun k => k = rb) w w') : RPost base rb mb M w fv F rest' u w' fv :=
  ⟨⟨hb, h.own.mod hm (fun g e => h.own.ne_blk e h.blk (by decide)), h.map.mod hm (fun e => h.map.ne_blk h.blk e), h.hr⟩, hm.mono (fun _ _ e => .inl e), fun g e => .inl e⟩
theorem RW.below (h : RW base rb mb M w fv F rest u) {w' : World} (hb : Below w.heap.size w w') : RW base rb mb M w' fv F rest u :=
  have hm := Mod.of_below (S := fun _ => False) hb
  ⟨h.blk.mod hm (fun h => h), h.own.mod hm (fun _ _ h => h), h.map.mod hm (fun h => h), h.hr⟩
theorem RPost.refl (h : RW base rb mb M w fv F rest u) : RPost base rb mb M w fv F rest u w fv := ⟨h, Mod.refl _ _, fun g e => .inl e⟩
theorem RPost.trans {F1 F2 : List FN} {r1 r2 : List UInt8} {u1 u2 : Bool} {w1 w2 : World} {v1 v2 : Value} (h : RPost base rb mb M w fv F1 r1 u1 w1 v1) (k : RPost base rb mb M w1 v1 F2 r2 u2 w2 v2) : RPost base rb mb M w fv F2 r2 u2 w2 v2 := by
  have hs := h.mod.size
  refine ⟨k.rw, h.mod.trans' k.mod (fun _ _ h => h) ?_, fun g e => ?_⟩
  · rintro i hi (e | e)
    · exact .inl e
    · rcases h.new i e with e | e
      · exact .inr e
      · omega
  · rcases k.new g e with e | e
    · exact h.new g e
    · exact .inr (by omega)
theorem RPost.after {w1 w2 : World} {v2 : Value} (hb : Below w.heap.size w w1) (k : RPost base rb mb M w1 fv F rest u w2 v2) : RPost base rb mb M w fv F rest u w2 v2 := by
  have hs := hb.size
  refine ⟨k.rw, (Mod.of_below hb).trans' k.mod (fun _ _ h => h) (fun _ _ h => h), fun g e => ?_⟩
  rcases k.new g e with e | e
  · exact .inl e
  · exact .inr (by omega)
theorem RPost.before {F1 : List FN} {r1 : List UInt8} {u1 : Bool} {w1 w2 : World} {v1 : Value} (h : RPost base rb mb M w fv F1 r1 u1 w1 v1) (hb : Below w1.heap.size w1 w2) : RPost base rb mb M w fv F1 r1 u1 w2 v1 :=
  ⟨h.rw.below hb, h.mod.trans (Mod.of_below hb), h.new⟩
end

theorem put_any (base rb mb : Nat) (M : List (List UInt8 × Int)) (w : World) (fv : Value) (F : List FN) (rest : List UInt8) (u : Bool) (n : FN) (h : RW base rb mb M w fv F rest u) (hF : F.length ≤ 1099511627775) :
    Calls Tryz.prog 240 #[.pointer (some ⟨rb, 0, none⟩), .agg #[.int .i64 n.op, .int .i64 n.var, .int .i64 n.a, .int .i64 n.b]] w fun e w' => e = .returned (.int .i64 F.length) ∧ ∃ fv', RPost base rb mb M w fv (F ++ [n]) rest u w' fv' := by
  have hbs : base ≤ w.heap.size := by have := h.hr; have := h.blk.lt; omega
  have h1 := h.below ((Below.refl _ _).alloc (Nat.le_refl _) (.cells #[.int .i64 n.op, .int .i64 n.var, .int .i64 n.a, .int .i64 n.b] 309))
  have hn := Blk.new w #[.int .i64 n.op, .int .i64 n.var, .int .i64 n.a, .int .i64 n.b] 309
  have hbel : Below w.heap.size w (w.alloc (.cells #[.int .i64 n.op, .int .i64 n.var, .int .i64 n.a, .int .i64 n.b] 309)) := (Below.refl _ _).alloc (Nat.le_refl _) _
  have hsz : w.heap.size < (w.alloc (.cells #[.int .i64 n.op, .int .i64 n.var, .int .i64 n.a, .int .i64 n.b] 309)).heap.size := by simp
  go_enter Tryz.func240, Tryz.ntmps240
  go_upto_region 1 with fail
  generalize w.alloc (.cells #[.int .i64 n.op, .int .i64 n.var, .int .i64 n.a, .int .i64 n.b] 309) = W at *
  have c2 := h1.blk.cell 2
  have f2 := h1.blk.frozen 2
  have hlt := h1.blk.lt
  have n0 := hn.cell 0
  have n1 := hn.cell 1
  have n2 := hn.cell 2
  have n3 := hn.cell 3
  simp at c2 n0 n1 n2 n3
  go_region_law ((refine step_append_row rowFN (by rfl) _ _ (by rfl) base fv F n (by rfl) ((h1.own.alloc _).drew) W.heap.size (by rfl) (Blk.new W _ _).drew hF (by simp; omega) (W.heap.size + 1) (by simp) ?_; intro g cap w1 hown1 hgrow hat hlt1; have k1 := ((h1.blk.alloc _).drew).mod (Mod.of_grown hgrow) (fun e => (h1.own.ne_blk e.symm h1.blk (by decide)) rfl); have k0 := k1.cell 2; have k2 := k1.frozen 2; simp at k0))
  all_goals
    have hne : g ≠ rb := hown1.ne_blk rfl k1 (by decide)
    have k3 := k1.setCell 2 (.slice (some ⟨g, 0, none⟩) (F.length + 1) cap)
    have e2 := k3.cell 2
    simp at e2
    have o3 := hown1.setCell (p := ⟨rb, 2, none⟩) (fun g' e => by cases e; exact hne) (.slice (some ⟨g, 0, none⟩) (F.length + 1) cap)
    have p1 := ((h1.map.alloc _).drew).mod (Mod.of_grown hgrow) (fun e => (h1.own.ne_map e.symm h1.map) rfl)
    have p3 := p1.setCell (p := ⟨rb, 2, none⟩) (p1.ne_blk k1) (.slice (some ⟨g, 0, none⟩) (F.length + 1) cap)
    have mm : Mod (RS rb fv) W (w1.setCell ⟨rb, 2, none⟩ (.slice (some ⟨g, 0, none⟩) (F.length + 1) cap)) :=
      (((Mod.refl _ W).alloc _).drew.grown hgrow (fun k e _ => .inr e)).setCell (p := ⟨rb, 2, none⟩) (.inl (.inl rfl)) _
    have hw1 := k1.lt
    clear c2 f2 n0 n1 n2 n3 k0 k2
    have hFi : (F.length : Int) ≤ 1099511627776 := by omega
    go_wp2_with fail
    go_ret
    refine ⟨by show Ending.returned (.int .i64 _) = _; congr 2, .slice (some ⟨g, 0, none⟩) (F.length + 1) cap, ⟨?_, ?_, p3, h.hr⟩, (Mod.of_below hbel).trans mm, ?_⟩
    · simpa using k3
    · simpa using o3
    · intro g' e
      cases e
      rcases hat with e | e
      · exact .inl e
      · right; show w.heap.size ≤ g; omega
end Go.Proofs.YtpekmohnjpbkgaaGreatDoor

namespace Go.Proofs.YtpekmohnjpbkgaaGreatDoor
open Go Go.RowKit

structure PS where
  F : List FN
  rest : List UInt8
  u : Bool

def skipP (sym : List UInt8) (s : PS) : Bool × PS := ((skipF sym s.rest).1, { s with rest := (skipF sym s.rest).2 })
def putP (n : FN) (s : PS) : Int × PS := ((s.F.length : Int), { s with F := s.F ++ [n] })

def loopF (operand : PS → Option (Int × PS)) (sym : List UInt8) (op : Int) : Nat → Int → PS → Option (Int × PS)
  | 0, _, _ => none
  | g + 1, a, s =>
    if (skipP sym s).1 = false then some (a, (skipP sym s).2) else
    match operand (skipP sym s).2 with
    | none => none
    | some (b, s2) => loopF operand sym op g (putP ⟨op, 0, a, b⟩ s2).1 (putP ⟨op, 0, a, b⟩ s2).2
def exprF (operand : PS → Option (Int × PS)) (sym : List UInt8) (op : Int) (s : PS) : Option (Int × PS) :=
  match operand s with
  | none => none
  | some (a, s1) => loopF operand sym op (s1.rest.length + 1) a s1
def sOr : List UInt8 := [124, 124]
def sAnd : List UInt8 := [38, 38]
def termF (factor : PS → Option (Int × PS)) (s : PS) : Option (Int × PS) := exprF factor sAnd 4 s
def wholeF (factor : PS → Option (Int × PS)) (s : PS) : Option (Int × PS) := exprF (termF factor) sOr 5 s

def wordF (M : List (List UInt8 × Int)) (s : PS) : Option (Int × PS) :=
  let n := identLen s.rest
  if n = 0 then none else
  let s1 : PS := { s with rest := s.rest.drop n }
  if s.rest.take n = sTrue then some (putP ⟨1, 0, 0, 0⟩ s1) else
  if s.rest.take n = sFalse then some (putP ⟨0, 0, 0, 0⟩ s1) else
  some (putP ⟨2, (aget M (s.rest.take n)).getD 0, 0, 0⟩ { s1 with u := s.u || !(aget M (s.rest.take n)).isSome })

def factorF (M : List (List UInt8 × Int)) : Nat → PS → Option (Int × PS)
  | 0, _ => none
  | f + 1, s =>
    if (skipP [33] s).1 = true then
      match factorF M f (skipP [33] s).2 with
      | none => none
      | some (a, s1) => some (putP ⟨3, 0, a, 0⟩ s1)
    else
    if (skipP [40] (skipP [33] s).2).1 = true then
      match wholeF (factorF M f) (skipP [40] (skipP [33] s).2).2 with
      | none => none
      | some (a, s1) => if (skipP [41] s1).1 = true then some (a, (skipP [41] s1).2) else none
    else wordF M (skipP [40] (skipP [33] s).2).2

/-- What an operand leaves is no longer than what it got. -/
def Shr (o : PS → Option (Int × PS)) : Prop := ∀ s a s', o s = some (a, s') → s'.rest.length ≤ s.rest.length ∧ s'.F.length + s'.rest.length ≤ s.F.length + s.rest.length

theorem skipF_le (sym rest : List UInt8) : (skipF sym rest).2.length ≤ rest.length := by
  have h1 := trimL_le rest
  simp only [skipF, Go.Lib.trimPrefix]
  split
  · simp; omega
  · exact h1
theorem skipF_lt {sym rest : List UInt8} (h : (skipF sym rest).1 = true) : (skipF sym rest).2.length + sym.length ≤ rest.length := by
  have h1 := trimL_le rest
  simp only [skipF] at h ⊢
  have h2 : sym.length ≤ (trimL rest).length := by
    unfold Go.Lib.hasPrefix at h
    exact (List.isPrefixOf_iff_prefix.1 h).length_le
  simp only [Go.Lib.trimPrefix, h, if_true, List.length_drop]
  omega
theorem identLen_le (l : List UInt8) : identLen l ≤ l.length := by
  cases l with
  | nil => simp [identLen]
  | cons b l =>
    have := wordLen_le (b :: l)
    simp only [identLen]
    split
    · omega
    · exact this

theorem loopF_shr {o : PS → Option (Int × PS)} (ho : Shr o) {sym : List UInt8} (hsym : 1 ≤ sym.length) {op : Int} : ∀ (g : Nat) (a : Int) (s : PS) (b : Int) (s' : PS), loopF o sym op g a s = some (b, s') → s'.rest.length ≤ s.rest.length ∧ s'.F.length + s'.rest.length ≤ s.F.length + s.rest.length := by
  intro g
  induction g with
  | zero => intro a s b s' h; cases h
  | succ g ih =>
    intro a s b s' h
    have hle := skipF_le sym s.rest
    simp only [loopF] at h
    by_cases hs : (skipP sym s).1 = false
    · rw [if_pos hs] at h
      cases h
      exact ⟨hle, by show s.F.length + _ ≤ _; have : (skipP sym s).2.rest.length ≤ s.rest.length := hle; omega⟩
    · rw [if_neg hs] at h
      have hlt := skipF_lt (sym := sym) (rest := s.rest) (by simpa [skipP] using hs)
      cases ho' : o (skipP sym s).2 with
      | none => rw [ho'] at h; cases h
      | some p =>
        obtain ⟨b1, s2⟩ := p
        rw [ho'] at h
        have h2 := ho _ _ _ ho'
        have h3 := ih _ _ _ _ h
        simp only [putP, skipP, List.length_append, List.length_cons, List.length_nil] at h2 h3
        omega
theorem exprF_shr {o : PS → Option (Int × PS)} (ho : Shr o) {sym : List UInt8} (hsym : 1 ≤ sym.length) (op : Int) : Shr (exprF o sym op) := by
  intro s a s' h
  simp only [exprF] at h
  cases ho' : o s with
  | none => rw [ho'] at h; cases h
  | some p =>
    obtain ⟨b1, s2⟩ := p
    rw [ho'] at h
    have h2 := ho _ _ _ ho'
    have h3 := loopF_shr ho hsym _ _ _ _ _ h
    omega
theorem wordF_shr (M : List (List UInt8 × Int)) : Shr (wordF M) := by
  intro s a s' h
  have hn := identLen_le s.rest
  simp only [wordF] at h
  by_cases h0 : identLen s.rest = 0
  · rw [if_pos h0] at h; cases h
  · rw [if_neg h0] at h
    have key : s'.rest = s.rest.drop (identLen s.rest) ∧ s'.F.length = s.F.length + 1 := by
      by_cases h1 : s.rest.take (identLen s.rest) = sTrue
      · rw [if_pos h1] at h; cases h; simp
      · rw [if_neg h1] at h
        by_cases h2 : s.rest.take (identLen s.rest) = sFalse
        · rw [if_pos h2] at h; cases h; simp
        · rw [if_neg h2] at h; cases h; simp
    rw [key.1, key.2, List.length_drop]
    omega
theorem factorF_shr (M : List (List UInt8 × Int)) : ∀ f, Shr (factorF M f) := by
  intro f
  induction f with
  | zero => intro s a s' h; cases h
  | succ f ih =>
    intro s a s' h
    simp only [factorF] at h
    have h1 := skipF_le [33] s.rest
    have h2 := skipF_le [40] (skipF [33] s.rest).2
    by_cases hs : (skipP [33] s).1 = true
    · rw [if_pos hs] at h
      have hlt := skipF_lt (sym := [33]) (rest := s.rest) hs
      cases ho : factorF M f (skipP [33] s).2 with
      | none => rw [ho] at h; cases h
      | some p =>
        obtain ⟨b1, s2⟩ := p
        rw [ho] at h
        have h3 := ih _ _ _ ho
        cases h
        simp only [skipP, List.length_append, List.length_cons, List.length_nil] at h3 hlt ⊢
        omega
    · rw [if_neg hs] at h
      by_cases hp : (skipP [40] (skipP [33] s).2).1 = true
      · rw [if_pos hp] at h
        cases ho : wholeF (factorF M f) (skipP [40] (skipP [33] s).2).2 with
        | none => rw [ho] at h; cases h
        | some p =>
          obtain ⟨b1, s2⟩ := p
          rw [ho] at h
          have h3 := exprF_shr (exprF_shr ih (sym := sAnd) (by decide) 4) (sym := sOr) (by decide) 5 _ _ _ ho
          have h4 := skipF_le [41] s2.rest
          simp only at h
          split at h
          · cases h
            simp only [skipP] at h3 ⊢
            omega
          · cases h
      · rw [if_neg hp] at h
        have h3 := wordF_shr M _ _ _ h
        simp only [skipP] at h3
        omega
end Go.Proofs.YtpekmohnjpbkgaaGreatDoor
