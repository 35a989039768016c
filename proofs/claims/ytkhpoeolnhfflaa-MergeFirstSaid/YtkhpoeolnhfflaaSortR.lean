/-
  slices.rotateCmpFunc over any program that bears it: two neighbouring pieces of a row change places. Conditions: the row holds the elements.
-/
import Derived.Test.YtkhpoeolnhfflaaSortW
set_option linter.unusedSimpArgs false
set_option linter.unusedVariables false
namespace Go.Proofs.Ytkhpoeolnhfflaa
open Go.Shelf Go.RowKit Go.Lib Go.Sort
variable {P : Program} {α : Type} [Inhabited α]

set_option maxHeartbeats 4000000 in
set_option maxRecDepth 1000000 in
theorem rotate_any {k : Nat} (L : SortLays P k) (enc : α → List Value) (fv : Value) (blk off cap a m b : Nat) (d0 d : Array α) (w0 w : World) (R : RowK enc k w0 blk off d0) (hs : d0.size = d.size) (hsz : d0.size < 4611686018427387904) (X U V Q : List α)
    (h : d.toList = X ++ U ++ V ++ Q) (ha : a = X.length) (hm : m = X.length + U.length) (hb : b = X.length + U.length + V.length) (S : SWK enc k w0 blk off d w) (hu0 : 0 < U.length) (hv0 : 0 < V.length) :
    Calls P 62 #[.slice (some ⟨blk, off, none⟩) d0.size cap, .int .i64 a, .int .i64 m, .int .i64 b, fv] w fun e w' =>
      e = .returned (.tuple #[]) ∧ ∃ d' : Array α, d'.size = d0.size ∧ d'.toList = X ++ V ++ U ++ Q ∧ SWK enc k w0 blk off d' w' := by
  have mixed := L.mixed; have t0 := L.t0; have a0 := L.a0; have z0 := L.z0; have v0 := L.v0; have t3 := L.t3; have a3 := L.a3; have z3 := L.z3; have v3 := L.v3; have t4 := L.t4; have a4 := L.a4; have z4 := L.z4; have v4 := L.v4; have ts := L.ts; have as1 := L.as1; have zs := L.zs; have vs := L.vs
  have hsd : d0.size = X.length + U.length + V.length + Q.length := by rw [hs, ← Array.length_toList, h]; simp; omega
  have eS : ∀ args w, (callFunc 63 args).run P w = .ok (.enter 63 args) w := enters_of L.fS (by kernel_rfl) rfl
  have HSW : Hid (∀ (a b n : Nat) (d : Array α) (w : World) (X U M V Q : List α), d0.size = d.size → d.toList = X ++ U ++ M ++ V ++ Q → a = X.length → b = X.length + U.length + M.length → U.length = n → V.length = n → SWK enc k w0 blk off d w →
    Calls P 63 #[.slice (some ⟨blk, off, none⟩) d0.size cap, .int .i64 a, .int .i64 b, .int .i64 n, fv] w fun e w' =>
      e = .returned (.tuple #[]) ∧ ∃ d' : Array α, d'.size = d0.size ∧ d'.toList = X ++ V ++ M ++ U ++ Q ∧ SWK enc k w0 blk off d' w') :=
    fun a b n d w X U M V Q hs h ha hb hu hv S => swapRange_any L enc fv blk off cap a b n d0 d w0 w R hs hsz X U M V Q h ha hb hu hv S
  have S0 : Aside (SWK enc k w0 blk off d w) := S
  have HD : Hid (d.toList = X ++ U ++ V ++ Q) := h
  have HX : Hid (a = X.length ∧ m = X.length + U.length ∧ b = X.length + U.length + V.length) := ⟨ha, hm, hb⟩
  have hmz : m < 4611686018427387904 := by omega
  have hbz : b < 4611686018427387904 := by omega
  have ham : a ≤ m := by omega
  have hmb : m ≤ b := by omega
  have FG := L.fR
  have e1 : (m : Int) - (a : Int) = ((m - a : Nat) : Int) := by omega
  have e2 : (b : Int) - (m : Int) = ((b - m : Nat) : Int) := by omega
  have hh := Lib.hid hs
  clear S h ha hb hm hsd L hs
  go_enter FG, Try.ntmps62
  go_wp2
  go_loopw [10, 11] (fun iv jv wr => ∃ (i j : Nat) (dk : Array α) (X' U' V' Q' : List α), iv = .int .i64 i ∧ jv = .int .i64 j ∧ 0 < i ∧ 0 < j ∧ i ≤ m ∧ j ≤ b ∧ dk.size = d0.size ∧ Hid (dk.toList = X' ++ U' ++ V' ++ Q' ∧ X' ++ V' ++ U' ++ Q' = X ++ V ++ U ++ Q ∧ U'.length = i ∧ V'.length = j ∧ X'.length + i = m) ∧ Aside (SWK enc k w0 blk off dk wr))
    (fun iv jv _ => (RowKit.intOf iv).toNat + (RowKit.intOf jv).toNat)
  case atStart =>
    obtain ⟨h1, h2, h3⟩ := HX.out
    exact ⟨m - a, b - m, d, X, U, V, Q, rfl, rfl, by omega, by omega, by omega, by omega, hh.out.symm, ⟨HD.out, rfl, by omega, by omega, by omega⟩, S0⟩
  case round =>
    clear S0
    obtain ⟨i, j, dk, X', U', V', Q', rfl, rfl, hi0, hj0, him, hjb, hds, HK, S1⟩ := hrel
    have em : (m : Int) - (i : Int) = ((m - i : Nat) : Int) := by omega
    have hij : j ≤ b - m ∨ True := .inr trivial
    rcases Nat.lt_trichotomy i j with hlt | heq | hgt
    · -- the longer right one gives its end
      have ne : (i : Int) ≠ (j : Int) := by omega
      have ne' : ¬ (j : Int) < (i : Int) := by omega
      have em2 : (m : Int) + (j : Int) - (i : Int) = ((m + j - i : Nat) : Int) := by omega
      have ej : (j : Int) - (i : Int) = ((j - i : Nat) : Int) := by omega
      obtain ⟨q1, q2, q3, q4, q5⟩ := HK.out
      have hc := HSW.out (m - i) (m + j - i) i dk wr X' U' (V'.take (j - i)) (V'.drop (j - i)) Q' hds.symm (by rw [q1]; simp) (by omega) (by simp; omega) q3 (by simp; omega) S1.out
      have HK2 : Hid (X' ++ V'.drop (j - i) ++ V'.take (j - i) ++ (U' ++ Q') = X' ++ V'.drop (j - i) ++ V'.take (j - i) ++ U' ++ Q' ∧ X' ++ V'.take (j - i) ++ V'.drop (j - i) ++ (U' ++ Q') = X ++ V ++ U ++ Q ∧ (V'.drop (j - i)).length = i ∧ (V'.take (j - i)).length = j - i ∧ X'.length + i = m) :=
        ⟨by simp, by rw [← q2]; simp, by simp; omega, by simp; omega, q5⟩
      clear q1 q2 q3 q4 q5 HK S1
      go_wp2_with (go_at_fn 63; refine hc.mono ?_; clear hc; rintro e w1 ⟨rfl, d1, hd1, l1, T1⟩)
      have S1 : Aside (SWK enc k w0 blk off d1 w1) := T1
      clear T1
      go_roundw
      case rel => exact ⟨i, j - i, d1, X', V'.drop (j - i), V'.take (j - i), U' ++ Q', rfl, by go_num, hi0, by omega, him, by omega, hd1, ⟨by rw [l1]; exact HK2.out.1.symm, HK2.out.2⟩, S1⟩
      case measure => simp [RowKit.intOf]; omega
    · subst heq
      obtain ⟨q1, q2, q3, q4, q5⟩ := HK.out
      have hc := HSW.out (m - i) m i dk wr X' U' [] V' Q' hds.symm (by rw [q1]; simp) (by omega) (by simp; omega) q3 q4 S1.out
      have HK2 : Hid (X' ++ V' ++ [] ++ U' ++ Q' = X ++ V ++ U ++ Q) := by show _ = _; rw [← q2]; simp
      clear q1 q2 q3 q4 q5 HK S1
      go_wp2_with (go_at_fn 63; refine hc.mono ?_; clear hc; rintro e w1 ⟨rfl, d1, hd1, l1, T1⟩)
      go_end0
      exact ⟨rfl, d1, hd1, by rw [l1]; exact HK2.out, T1⟩
    · have ne : (i : Int) ≠ (j : Int) := by omega
      have ne' : (j : Int) < (i : Int) := by omega
      have ej : (i : Int) - (j : Int) = ((i - j : Nat) : Int) := by omega
      obtain ⟨q1, q2, q3, q4, q5⟩ := HK.out
      have hc := HSW.out (m - i) m j dk wr X' (U'.take j) (U'.drop j) V' Q' hds.symm (by rw [q1]; simp) (by omega) (by simp; omega) (by simp; omega) q4 S1.out
      have HK2 : Hid (X' ++ V' ++ U'.drop j ++ U'.take j ++ Q' = X' ++ V' ++ U'.drop j ++ U'.take j ++ Q' ∧ X' ++ V' ++ U'.take j ++ U'.drop j ++ Q' = X ++ V ++ U ++ Q ∧ (U'.drop j).length = i - j ∧ (U'.take j).length = j ∧ (X' ++ V').length + (i - j) = m) :=
        ⟨rfl, by rw [← q2]; simp, by simp; omega, by simp; omega, by simp; omega⟩
      clear q1 q2 q3 q4 q5 HK S1
      go_wp2_with (go_at_fn 63; refine hc.mono ?_; clear hc; rintro e w1 ⟨rfl, d1, hd1, l1, T1⟩)
      have S1 : Aside (SWK enc k w0 blk off d1 w1) := T1
      clear T1
      go_roundw
      case rel => exact ⟨i - j, j, d1, X' ++ V', U'.drop j, U'.take j, Q', by go_num, rfl, by omega, hj0, by omega, hjb, hd1, ⟨l1, HK2.out.2⟩, S1⟩
      case measure => simp [RowKit.intOf]; omega
end Go.Proofs.Ytkhpoeolnhfflaa
