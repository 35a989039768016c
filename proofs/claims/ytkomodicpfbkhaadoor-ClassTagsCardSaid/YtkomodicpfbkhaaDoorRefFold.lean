/-
  The reference's Bytes, fold and Fold: they answer what class.Fold does. Conditions: at most 10000000 bytes.
-/
import Derived.Test.YtkomodicpfbkhaaDoorFoldW
import Derived.Test.YtkomodicpfbkhaaDoorRefRune
import Derived.Lib.AppendStr
import Derived.Laws.BytesArg
namespace Go.Proofs.YtkomodicpfbkhaaDoor
open Go.RowKit Go.Lib

theorem owns_form {w : World} {base n size : Nat} {e : TypeId} {v : Value} {xs : List Value} (h : w.ownsRow base e size v n xs) (hn : 0 < n) : ∃ g cap, v = .slice (some ⟨g, 0, none⟩) n cap := by
  rcases h.2 with ⟨_, h0⟩ | ⟨g, cap, cur, hv, _⟩
  · omega
  · exact ⟨g, cap, hv⟩

theorem strOfNums_bytes (l : List UInt8) : strOfNums (l.map fun b => (b.toNat : Int)) = ⟨l.toArray⟩ := by
  have h : ((l.map fun b => (b.toNat : Int)).map fun n => UInt8.ofNat n.toNat) = l := by
    rw [List.map_map]
    conv => rhs; rw [← List.map_id l]
    refine List.map_congr_left fun b _ => ?_
    simp
  show (⟨((l.map fun b => (b.toNat : Int)).map fun n => UInt8.ofNat n.toNat).toArray⟩ : ByteArray) = _
  rw [h]

/-- A row's cells stand at a block's begin. -/
def Stands (w : World) (g : Nat) (xs : List Value) : Prop := ∀ j u, xs[j]? = some u → w.cell? ((⟨g, 0, none⟩ : Addr).add j) = some u

theorem stands_new (w : World) (a : Array Value) (T : TypeId) (g : Nat) (hg : g = w.heap.size) : Stands (w.alloc (.cells a T)) g a.toList := by
  subst hg
  intro j u hu
  rw [Addr.add_lit, Nat.zero_add, World.cell?_alloc_new]
  simpa using hu
theorem ret_slice {n m : Nat} {g : Nat} (h : n = m) : Ending.returned (.slice (some ⟨g, 0, none⟩) n n) = .returned (.slice (some ⟨g, 0, none⟩) m m) := by rw [h]

theorem stands_is {w : World} {a : Array Value} {T : TypeId} {xs : List Value} (h : a.toList = xs) : Stands (w.alloc (.cells a T)) w.heap.size xs := by
  subst h; exact stands_new w a T _ rfl
theorem cell_u8 {x y : Int} (h : x = y) (h0 : 0 ≤ y) (h1 : y < 256) : Value.int .u8 x = .int .u8 ((y.toNat.toUInt8).toNat : Nat) := by
  rw [toByte_nat y h0 h1, h]; congr 1; omega
theorem two_eq {a b a' b' : Value} (h1 : a = a') (h2 : b = b') : [a, b] = [a', b'] := by rw [h1, h2]
theorem three_eq {a b c a' b' c' : Value} (h1 : a = a') (h2 : b = b') (h3 : c = c') : [a, b, c] = [a', b', c'] := by rw [h1, h2, h3]
theorem four_eq {a b c d a' b' c' d' : Value} (h1 : a = a') (h2 : b = b') (h3 : c = c') (h4 : d = d') : [a, b, c, d] = [a', b', c', d'] := by rw [h1, h2, h3, h4]

set_option maxHeartbeats 4000000 in
set_option maxRecDepth 1000000 in
theorem ref_bytes_any (r : Int) (hr : IsRune r) (w : World) :
    Calls Tryd.prog 46 #[.int .i64 r] w fun e w' => ∃ g, e = .returned (.slice (some ⟨g, 0, none⟩) (encodeRune r).length (encodeRune r).length) ∧ Stands w' g (byteCells (encodeRune r)) ∧ Below w.heap.size w w' := by
  unfold IsRune at hr
  by_cases h1 : r < 128
  · have HE := Lib.hid (show encodeRune r = [r.toNat.toUInt8] by unfold encodeRune; rw [encodeRuneZ_one (by omega) (by omega)]; rfl)
    go_enter Tryd.func46, Tryd.ntmps46
    go_wp2
    go_ret
    rw [HE.out]
    refine ⟨_, rfl, stands_is (congrArg (· :: []) (cell_u8 ?_ (by omega) (by omega))), (Below.refl _ w).alloc (Nat.le_refl _) _⟩
    rfl
  · by_cases h2 : r < 2048
    · have HE := Lib.hid (show encodeRune r = [(192 + r / 64).toNat.toUInt8, (128 + r % 64).toNat.toUInt8] by unfold encodeRune; rw [encodeRuneZ_two (by omega) (by omega)]; rfl)
      have ed : Int.tdiv r 64 = r / 64 := Int.tdiv_eq_ediv_of_nonneg (by omega)
      have em : Int.tmod r 64 = r % 64 := Int.tmod_eq_emod_of_nonneg (by omega)
      go_enter Tryd.func46, Tryd.ntmps46
      go_wp2
      go_ret
      rw [HE.out]
      refine ⟨_, rfl, stands_is (two_eq (cell_u8 ?_ (by omega) (by omega)) (cell_u8 ?_ (by omega) (by omega))), (Below.refl _ w).alloc (Nat.le_refl _) _⟩
      · rfl
      · rfl
    · by_cases h3 : r < 65536
      · have HE := Lib.hid (show encodeRune r = [(224 + r / 4096).toNat.toUInt8, (128 + r / 64 % 64).toNat.toUInt8, (128 + r % 64).toNat.toUInt8] by unfold encodeRune; rw [encodeRuneZ_three (by omega)]; rfl)
        go_enter Tryd.func46, Tryd.ntmps46
        go_wp2
        go_ret
        rw [HE.out]
        refine ⟨_, rfl, stands_is (three_eq (cell_u8 ?_ (by omega) (by omega)) (cell_u8 ?_ (by omega) (by omega)) (cell_u8 ?_ (by omega) (by omega))), (Below.refl _ w).alloc (Nat.le_refl _) _⟩
        all_goals rfl
      · have HE := Lib.hid (show encodeRune r = [(240 + r / 262144).toNat.toUInt8, (128 + r / 4096 % 64).toNat.toUInt8, (128 + r / 64 % 64).toNat.toUInt8, (128 + r % 64).toNat.toUInt8] by unfold encodeRune; rw [encodeRuneZ_four (by omega) (by omega)]; rfl)
        go_enter Tryd.func46, Tryd.ntmps46
        go_wp2
        go_ret
        rw [HE.out]
        refine ⟨_, rfl, stands_is (four_eq (cell_u8 ?_ (by omega) (by omega)) (cell_u8 ?_ (by omega) (by omega)) (cell_u8 ?_ (by omega) (by omega)) (cell_u8 ?_ (by omega) (by omega))), (Below.refl _ w).alloc (Nat.le_refl _) _⟩
        all_goals rfl

set_option maxHeartbeats 8000000 in
set_option maxRecDepth 1000000 in
theorem ref_fold_any (r : Int) (hr : IsRune r) (w : World) :
    Calls Tryd.prog 32 #[.int .i64 r] w fun e w' => ∃ g, e = .returned (.slice (some ⟨g, 0, none⟩) (foldB r).length (foldB r).length) ∧ Stands w' g (byteCells (foldB r)) ∧ Below w.heap.size w w' := by
  have hi := foldZ_isRune r hr
  have hz : ∀ x, foldZ r = [x] → foldB r = encodeRune x := fun x h => by unfold foldB; rw [h, flat_one]
  have hs : ∀ x, foldZ r = [x] → IsRune x := fun x h => hi x (by rw [h]; simp)
  have hrr := hr
  unfold IsRune at hr
  have inb : inSpans r ups = (decide (65 ≤ r ∧ r ≤ 90) || decide (192 ≤ r ∧ r ≤ 222) || decide (913 ≤ r ∧ r ≤ 939) || decide (1040 ≤ r ∧ r ≤ 1071)) := by
    rw [Bool.eq_iff_iff]; simp [inSpans, ups]; omega
  have inb2 : inSpans r ups2 = decide (1024 ≤ r ∧ r ≤ 1039) := by
    rw [Bool.eq_iff_iff]; simp [inSpans, ups2]
  by_cases h1 : (65 ≤ r ∧ r ≤ 90) ∨ (192 ≤ r ∧ r ≤ 222 ∧ r ≠ 215) ∨ (913 ≤ r ∧ r ≤ 939 ∧ r ≠ 930) ∨ (1040 ≤ r ∧ r ≤ 1071)
  · have hx : foldZ r = [r + 32] := by
      unfold foldZ
      rw [if_neg (by omega), if_pos (by rw [inb]; simp; omega)]
    have HB := Lib.hid (hz _ hx)
    have hr2 := hs _ hx
    clear hz hs hi hx inb inb2
    rcases h1 with h | h | h | h
    all_goals
      go_enter Tryd.func32, Tryd.ntmps32
      go_wp2_with fail
      refine (ref_bytes_any _ hr2 _).mono ?_
      rintro e w1 ⟨g, rfl, hst, b1⟩
      go_wp2_with fail
      go_ret
      rw [HB.out]
      exact ⟨g, rfl, hst, b1⟩
  · have nups : inSpans r ups = true → r = 215 ∨ r = 930 := by rw [inb]; simp; omega
    by_cases h2 : 1024 ≤ r ∧ r ≤ 1039
    · have hx : foldZ r = [r + 80] := by
        unfold foldZ
        rw [if_neg (by omega), if_neg (by intro hc; have := nups hc; omega), if_pos (by rw [inb2]; simp; omega)]
      have HB := Lib.hid (hz _ hx)
      have hr2 := hs _ hx
      clear hz hs hi hx inb inb2 nups h1
      obtain ⟨h2, h2'⟩ := h2
      go_enter Tryd.func32, Tryd.ntmps32
      go_wp2_with fail
      refine (ref_bytes_any _ hr2 _).mono ?_
      rintro e w1 ⟨g, rfl, hst, b1⟩
      go_wp2_with fail
      go_ret
      rw [HB.out]
      exact ⟨g, rfl, hst, b1⟩
    · by_cases h3 : r = 223 ∨ r = 7838
      · have hx : foldZ r = [115, 115] := by
          unfold foldZ
          rw [if_neg (by omega), if_neg (by intro hc; have := nups hc; omega), if_neg (by rw [inb2]; simp; omega), if_pos h3]
        have HB := Lib.hid (show foldB r = [115, 115] by unfold foldB; rw [hx]; decide)
        clear hz hs hi hx inb inb2 nups h1 hrr
        rcases h3 with rfl | rfl
        all_goals
          go_enter Tryd.func32, Tryd.ntmps32
          go_wp2_with fail
          go_ret
          rw [HB.out]
          exact ⟨_, rfl, stands_is rfl, (Below.refl _ w).alloc (Nat.le_refl _) _⟩
      · have hx : foldZ r = [r] := by
          unfold foldZ
          by_cases h4 : r = 215 ∨ r = 930
          · rw [if_pos h4]
          · rw [if_neg h4, if_neg (by intro hc; have := nups hc; omega), if_neg (by rw [inb2]; simp; omega), if_neg h3]
        have HB := Lib.hid (hz _ hx)
        clear hz hs hi hx inb inb2 nups
        have hcases : r < 65 ∨ (90 < r ∧ r < 192) ∨ r = 215 ∨ (223 < r ∧ r < 913) ∨ r = 930 ∨ (939 < r ∧ r < 1024) ∨ (1071 < r ∧ r < 7838) ∨ 7838 < r := by omega
        clear h1 h2 h3
        rcases hcases with h | ⟨h, h'⟩ | h | ⟨h, h'⟩ | h | ⟨h, h'⟩ | ⟨h, h'⟩ | h
        all_goals
          have m1 : (r == 223) = false := by simp; omega
          have m2 : (r == 7838) = false := by simp; omega
          try subst h
          go_enter Tryd.func32, Tryd.ntmps32
          go_wp2_with fail
          refine (ref_bytes_any _ hrr _).mono ?_
          rintro e w1 ⟨g, rfl, hst, b1⟩
          go_wp2_with fail
          go_ret
          rw [HB.out]
          exact ⟨g, rfl, hst, b1⟩
end Go.Proofs.YtkomodicpfbkhaaDoor
