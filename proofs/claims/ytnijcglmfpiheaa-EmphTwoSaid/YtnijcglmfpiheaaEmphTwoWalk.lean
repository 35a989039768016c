/-
  The walk of EmphTwo: it returns true whatever it is handed. Conditions: the form's own bounds.
-/
import Derived.Test.YtnijcglmfpiheaaEmphDoor
set_option linter.unusedSimpArgs false
set_option linter.unusedVariables false
namespace Go.Proofs.Ytnijcglmfpiheaa
open Go.RowKit Go.Lib
namespace emphTwo
set_option maxHeartbeats 16000000 in
set_option maxRecDepth 100000 in
theorem walk (n : Int) (hnw : (Lit.int .i64 n).wf = true) (m : Int) (hmw : (Lit.int .i64 m).wf = true) (w : World) :
    Calls Try.prog 10 #[.int .i64 n, .int .i64 m] w fun e w' => e = .returned (.bool true) ∧ Below w.heap.size w w' := by
  have short : (n < 1 ∨ ¬ n < 1 ∧ m < 1 ∨ ¬ n < 1 ∧ ¬ m < 1 ∧ 2000 < n ∨ ¬ n < 1 ∧ ¬ m < 1 ∧ ¬ 2000 < n ∧ 2000 < m) ∨ (1 ≤ n ∧ 1 ≤ m ∧ n ≤ 2000 ∧ m ≤ 2000) := by omega
  rcases short with hs | ⟨h1, h2, h3, h4⟩
  · rcases hs with h1 | ⟨h1, h2⟩ | ⟨h1, h2, h3⟩ | ⟨h1, h2, h3, h4⟩
    all_goals
      go_enter Try.func10, Try.ntmps10
      go_wp2_with fail
      refine (emphAlive_any _).mono ?_
      rintro e w1 ⟨rfl, b1⟩
      go_wp2_with fail
      go_ret
      exact ⟨rfl, b1⟩
  · have n1 : ¬ n < 1 := by omega
    have n2 : ¬ m < 1 := by omega
    have n3 : ¬ 2000 < n := by omega
    have n4 : ¬ 2000 < m := by omega
    obtain ⟨hp, hlf⟩ := two_law n m h1 h2 h3 h4
    have hok : ∀ r ∈ twoL n m, RunOk r := by
      intro r hr
      simp only [twoL, List.mem_cons, List.mem_nil_iff, or_false] at hr
      rcases hr with rfl | rfl
      · exact ⟨(by decide : (Lit.int .u8 95).wf = true), hnw⟩
      · exact ⟨(by decide : (Lit.int .u8 95).wf = true), hmw⟩
    have hPr := fun (a1 : Option Addr) (c1 : Nat) (w1 : World) (h : RunsIn w1.heap.size w1 (.slice a1 (twoL n m).length c1) (twoL n m)) => pairs_any a1 c1 (twoL n m) (by show 2 ≤ 1000000; omega) hok w1 h
    have hLf := fun (a1 : Option Addr) (c1 : Nat) (w1 : World) (h : RunsIn w1.heap.size w1 (.slice a1 (twoL n m).length c1) (twoL n m)) => left_any a1 c1 (twoL n m) (by show 2 ≤ 1000000; omega) hok w1 h
    rw [hp] at hPr
    rw [hlf] at hLf
    have HL : RowKit.Hid (∀ (X : World), RunsIn (X.alloc (.cells #[.int .u8 95, .int .i64 n, .bool true, .bool false, .int .u8 95, .int .i64 m, .bool false, .bool true] 42)).heap.size (X.alloc (.cells #[.int .u8 95, .int .i64 n, .bool true, .bool false, .int .u8 95, .int .i64 m, .bool false, .bool true] 42)) (.slice (some ⟨X.heap.size, 0, none⟩) (twoL n m).length 2) (twoL n m)) := fun X => runsIn_block (heap_alloc_new X _) rfl
    have hl2 : (twoL n m).length = 2 := rfl
    have hL := twosP_len (min n m).toNat
    have HGET := Lib.hid (twosP_get (min n m).toNat)
    have hmin : 1 ≤ min n m ∧ min n m ≤ 2000 ∧ min n m ≤ n ∧ min n m ≤ m := by omega
    clear hp hlf hok hnw hmw
    generalize hps : twosP (min n m).toNat = ps at *
    obtain ⟨hk1, hk2, hk3, hk4⟩ := hmin
    have hq : (min n m + 1) / 2 = (ps.length : Int) := by
      rw [hL]
      omega
    have hLle : ps.length ≤ 2000 := by omega
    have hL0 : 1 ≤ ps.length := by omega
    clear hps hL
    go_enter Try.func10, Try.ntmps10
    go_wp2_with fail
    refine (emphAlive_any _).mono ?_
    rintro e w1 ⟨rfl, b1⟩
    have hR1 := HL.out w1
    have hB1 : Below w1.heap.size w1 (w1.alloc (.cells #[.int .u8 95, .int .i64 n, .bool true, .bool false, .int .u8 95, .int .i64 m, .bool false, .bool true] 42)) := (Below.refl _ w1).alloc (Nat.le_refl _) _
    have HB1 := Lib.hid (b1.trans (hB1.mono b1.size))
    clear b1 hB1 HL
    have HR1 := Lib.hid hR1
    have hP1 := hPr _ _ _ hR1
    rw [hl2] at hP1
    clear hR1 hPr
    go_wp2_with fail
    refine hP1.mono ?_
    clear hP1
    rintro e w2 ⟨⟨a2, c2, rfl, hP2⟩, b2⟩
    have hL2 := hLf _ _ w2 (HR1.out.later b2)
    rw [hl2] at hL2
    have HB2 := Lib.hid (HB1.out.trans (b2.mono HB1.out.size))
    have HP2 := Lib.hid hP2
    clear hP2 b2 HB1 HR1 hLf
    go_wp2_with fail
    refine hL2.mono ?_
    clear hL2
    rintro e w3 ⟨⟨v, rfl, hO3⟩, b3⟩
    generalize min n m = k at *
    have hI3 := intsIn_of_owns hO3
    have hi2 : ([n - k, m - k] : List Int).length = 2 := rfl
    obtain ⟨a3, c3, rfl, -⟩ := ownsRow_slice hO3
    have hA : Below w3.heap.size w3 (w3.alloc (.cells #[.int .i64 (n - k), .int .i64 (m - k)] 3)) := (Below.refl _ w3).alloc (Nat.le_refl _) _
    have hS := sameInts_any a3 (some ⟨w3.heap.size, 0, none⟩) c3 2 [n - k, m - k] (by show 2 ≤ 1000000; omega) _ (hI3.later hA) (intsIn_block (heap_alloc_new w3 (.cells #[.int .i64 (n - k), .int .i64 (m - k)] 3)) rfl)
    rw [hi2] at hS
    have HB3 := Lib.hid ((HB2.out.trans (b3.mono HB2.out.size)).trans (hA.mono (Nat.le_trans HB2.out.size b3.size)))
    have HP3 := Lib.hid ((HP2.out.later b3).later hA)
    clear hI3 hO3 b3 hA hi2 HB2 HP2
    go_wp2_with fail
    refine hS.mono ?_
    clear hS
    rintro e w4 ⟨rfl, q, rfl⟩
    have HP4 : RowKit.Hid (PairsIn (w3.alloc (.cells #[.int .i64 (n - k), .int .i64 (m - k)] 3)).heap.size ((w3.alloc (.cells #[.int .i64 (n - k), .int .i64 (m - k)] 3)).drewN q) (.slice a2 ps.length c2) ps) := HP3.out.below (below_drewN (Below.refl _ _))
    have HB4 : RowKit.Hid (Below w.heap.size w ((w3.alloc (.cells #[.int .i64 (n - k), .int .i64 (m - k)] 3)).drewN q)) := below_drewN HB3.out
    generalize (w3.alloc (.cells #[.int .i64 (n - k), .int .i64 (m - k)] 3)).heap.size = N4 at *
    clear HB3 HP3
    generalize (w3.alloc (.cells #[.int .i64 (n - k), .int .i64 (m - k)] 3)).drewN q = w4 at *
    go_wp2_with fail
    go_loopw [8, 9] (fun iv _ wr => ∃ i : Nat, i ≤ ps.length ∧ iv = .int .i64 i ∧ wr = w4) (fun iv _ _ => ps.length - (RowKit.intOf iv).toNat)
    case atStart => exact ⟨0, Nat.zero_le _, rfl, rfl⟩
    case round =>
      obtain ⟨i, hi, rfl, rfl⟩ := hrel
      by_cases hlt : i < ps.length
      · have hlt' : (i : Int) < (ps.length : Int) := by omega
        obtain ⟨g, off, rfl, hgl, -, hcs⟩ := HP4.out.at hlt
        obtain ⟨p0, p1, p2⟩ := hcs i hlt
        rw [HGET.out i hlt] at p0 p1 p2
        dsimp only at p0 p1 p2
        clear hcs hq
        by_cases he : i + 1 = ps.length
        · have he1 : ((i : Int) == (ps.length : Int) - 1) = true := beq_iff_eq.2 (by omega)
          by_cases ho : k.toNat % 2 = 1
          · rw [if_pos ⟨he, ho⟩] at p2
            have ho1 : k % 2 = 1 := by omega
            have ho2 : k.tmod 2 = 1 := by rw [Int.tmod_eq_emod_of_nonneg (by omega)]; exact ho1
            clear he ho
            go_wp2_with fail
            go_roundw
            case rel => exact ⟨i + 1, by omega, by go_num, by first | rfl | trivial⟩
            case measure => simp [RowKit.intOf]; omega
          · rw [if_neg (by omega)] at p2
            have ho1 : ¬ k % 2 = 1 := by omega
            have ho2 : ¬ k.tmod 2 = 1 := by rw [Int.tmod_eq_emod_of_nonneg (by omega)]; exact ho1
            clear he ho
            go_wp2_with fail
            go_roundw
            case rel => exact ⟨i + 1, by omega, by go_num, by first | rfl | trivial⟩
            case measure => simp [RowKit.intOf]; omega
        · rw [if_neg (by omega)] at p2
          have he1 : ((i : Int) == (ps.length : Int) - 1) = false := beq_eq_false_iff_ne.2 (by omega)
          clear he
          go_wp2_with fail
          go_roundw
          case rel => exact ⟨i + 1, by omega, by go_num, by first | rfl | trivial⟩
          case measure => simp [RowKit.intOf]; omega
      · have hlt' : ¬ (i : Int) < (ps.length : Int) := by omega
        clear hq
        go_wp2_with fail
        go_ret
        exact ⟨rfl, HB4.out⟩
end emphTwo
end Go.Proofs.Ytnijcglmfpiheaa
