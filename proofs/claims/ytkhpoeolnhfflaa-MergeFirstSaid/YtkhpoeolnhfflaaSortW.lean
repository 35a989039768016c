/-
  slices.swapRangeCmpFunc and rotateCmpFunc over any program that bears them: two neighbouring pieces of a row change places. Conditions: the row holds the elements.
-/
import Derived.Test.YtkhpoeolnhfflaaChecked
import Derived.Test.YtkhpoeolnhfflaaSortQ
import Derived.Lib.Hide
import Derived.Sort.WalkB2
import Derived.Sort.WalkB12
import Derived.Deep.LoopGhost
set_option linter.unusedSimpArgs false
set_option linter.unusedVariables false
namespace Go.Proofs.Ytkhpoeolnhfflaa
open Go.Shelf Go.RowKit Go.Lib Go.Sort

/-- What the walks of the stable sort ask of a program. -/
structure SortLays (P : Program) (k : Nat) : Prop where
  mixed : P.follows Departure.mixedOrders = true
  fS : P.funcs[63]? = some Try.f63
  fR : P.funcs[62]? = some Try.f62
  fM : P.funcs[61]? = some Try.f61
  t0 : P.underlying 0 = some (TypeDesc.tuple #[])
  a0 : ∀ w, (isAgg 0).run P w = .ok false w
  z0 : ∀ w, (Go.sizeOf 0).run P w = .ok 1 w
  v0 : ∀ w, (zeroValue 0).run P w = .ok (Value.tuple #[]) w
  t3 : P.underlying 3 = some (TypeDesc.int IntKind.i64)
  a3 : ∀ w, (isAgg 3).run P w = .ok false w
  z3 : ∀ w, (Go.sizeOf 3).run P w = .ok 1 w
  v3 : ∀ w, (zeroValue 3).run P w = .ok (Value.int IntKind.i64 0) w
  t4 : P.underlying 4 = some (TypeDesc.bool)
  a4 : ∀ w, (isAgg 4).run P w = .ok false w
  z4 : ∀ w, (Go.sizeOf 4).run P w = .ok 1 w
  v4 : ∀ w, (zeroValue 4).run P w = .ok (Value.bool false) w
  tu : P.underlying 81 = some (TypeDesc.int IntKind.u64)
  au : ∀ w, (isAgg 81).run P w = .ok false w
  zu : ∀ w, (Go.sizeOf 81).run P w = .ok 1 w
  vu : ∀ w, (zeroValue 81).run P w = .ok (Value.int IntKind.u64 0) w
  ts : P.underlying 30 = some (TypeDesc.slice 50)
  as1 : ∀ w, (isAgg 30).run P w = .ok false w
  zs : ∀ w, (Go.sizeOf 30).run P w = .ok 1 w
  vs : ∀ w, (zeroValue 30).run P w = .ok (Value.slice none 0 0) w
  aE : ∀ w, (isAgg 50).run P w = .ok true w
  zE : ∀ w, (Go.sizeOf 50).run P w = .ok k w

theorem sortLays : SortLays Try.prog 3 := ⟨rfl, Try.func63, Try.func62, Try.func61,
  rfl, fun _ => rfl, fun _ => rfl, fun _ => rfl, rfl, fun _ => rfl, fun _ => rfl, fun _ => rfl, rfl, fun _ => rfl, fun _ => rfl, fun _ => rfl, rfl, fun _ => rfl, fun _ => rfl, fun _ => rfl, rfl, fun _ => rfl, fun _ => rfl, fun _ => rfl, fun _ => rfl, fun _ => rfl⟩

variable {P : Program} {α : Type} [Inhabited α]

set_option maxHeartbeats 4000000 in
set_option maxRecDepth 1000000 in
theorem swapRange_any {k : Nat} (L : SortLays P k) (enc : α → List Value) (fv : Value) (blk off cap a b n : Nat) (d0 d : Array α) (w0 w : World) (R : RowK enc k w0 blk off d0) (hs : d0.size = d.size) (hsz : d0.size < 4611686018427387904) (X U M V Q : List α)
    (h : d.toList = X ++ U ++ M ++ V ++ Q) (ha : a = X.length) (hb : b = X.length + U.length + M.length) (hu : U.length = n) (hv : V.length = n) (S : SWK enc k w0 blk off d w) :
    Calls P 63 #[.slice (some ⟨blk, off, none⟩) d0.size cap, .int .i64 a, .int .i64 b, .int .i64 n, fv] w fun e w' =>
      e = .returned (.tuple #[]) ∧ ∃ d' : Array α, d'.size = d0.size ∧ d'.toList = X ++ V ++ M ++ U ++ Q ∧ SWK enc k w0 blk off d' w' := by
  have mixed := L.mixed; have t0 := L.t0; have a0 := L.a0; have z0 := L.z0; have v0 := L.v0; have t3 := L.t3; have a3 := L.a3; have z3 := L.z3; have v3 := L.v3; have t4 := L.t4; have a4 := L.a4; have z4 := L.z4; have v4 := L.v4; have ts := L.ts; have as1 := L.as1; have zs := L.zs; have vs := L.vs; have aE := L.aE; have zE := L.zE
  have hsd : d0.size = X.length + U.length + M.length + V.length + Q.length := by rw [hs, ← Array.length_toList, h]; simp; omega
  have S0 : Aside (SWK enc k w0 blk off d w) := S
  have HL : Hid (d.toList = X ++ V.take 0 ++ U.drop 0 ++ M ++ U.take 0 ++ V.drop 0 ++ Q) := by show _ = _; rw [h]; simp
  have hA : a + n ≤ d0.size := by omega
  have hB : b + n ≤ d0.size := by omega
  have HX : Hid (a = X.length ∧ b = X.length + U.length + M.length ∧ U.length = n ∧ V.length = n) := ⟨ha, hb, hu, hv⟩
  have FG := L.fS
  clear S h ha hb hu hv hsd L
  go_enter FG, Try.ntmps63
  go_wp2
  go_loopw [10] (fun iv wr => ∃ (t : Nat) (dk : Array α), t ≤ n ∧ iv = .int .i64 t ∧ dk.size = d0.size ∧ Hid (dk.toList = X ++ V.take t ++ U.drop t ++ M ++ U.take t ++ V.drop t ++ Q) ∧ Aside (SWK enc k w0 blk off dk wr)) (fun iv _ => n - (RowKit.intOf iv).toNat)
  case atStart => exact ⟨0, d, Nat.zero_le _, rfl, hs.symm, HL, S0⟩
  case round =>
    clear S0
    obtain ⟨t, dk, ht, rfl, hds, HK, S1⟩ := hrel
    by_cases hlt : t < n
    · go_wp2_with fail
      have ea : ((a : Int) + (t : Int)).toNat = a + t := by omega
      have pa : (0 : Int) ≤ (a : Int) + (t : Int) := by omega
      have ba : (a : Int) + (t : Int) < (d0.size : Int) := by omega
      have ra : IntKind.i64.wrap ((a : Int) + (t : Int)) = (a : Int) + (t : Int) := by rw [IntKind.wrap_i64]; omega
      have ec : ((b : Int) + (t : Int)).toNat = b + t := by omega
      have pc : (0 : Int) ≤ (b : Int) + (t : Int) := by omega
      have bc : (b : Int) + (t : Int) < (d0.size : Int) := by omega
      have rc : IntKind.i64.wrap ((b : Int) + (t : Int)) = (b : Int) + (t : Int) := by rw [IntKind.wrap_i64]; omega
      have S2 : Aside (SWK enc k w0 blk off (swp dk (a + t) (b + t)) ((wr.drew.setCells blk (off + (a + t) * k) (enc dk[b + t]!)).setCells blk (off + (b + t) * k) (enc dk[a + t]!))) := S1.out.swapped R (a + t) (b + t) (by omega) (by omega)
      have la := S1.out.ld1 R (by omega) P (a + t) (by omega)
      have lb := S1.out.ld1 R (by omega) P (b + t) (by omega)
      have sa := S1.out.st1 R (by omega) P (a + t) (by omega) dk[b + t]!
      have sb := S1.out.st2 R (by omega) P (a + t) (b + t) (by omega) (by omega) dk[b + t]! dk[a + t]!
      have na : (enc dk[a + t]!).length = k := R.hk _
      have nb : (enc dk[b + t]!).length = k := R.hk _
      generalize enc dk[a + t]! = cI at S2 la sb na
      generalize enc dk[b + t]! = cJ at S2 lb sa sb nb
      clear S1
      go_wp2_with fail
      go_big_region_o
      clear la lb sa sb
      generalize (wr.drew.setCells blk (off + (a + t) * k) cJ).setCells blk (off + (b + t) * k) cI = w2 at S2 ⊢
      go_wp2
      go_roundw
      case rel => exact ⟨t + 1, _, by omega, by go_num, by rw [size_swp]; exact hds, (by obtain ⟨h1, h2, h3, h4⟩ := HX.out; exact range_step HK.out (by omega) (by omega) _ _ (by omega) (by omega)), S2⟩
      case measure => simp [RowKit.intOf]; omega
    · obtain rfl : t = n := by omega
      go_wp2
      go_end0
      obtain ⟨h1, h2, h3, h4⟩ := HX.out
      exact ⟨rfl, dk, hds, by rw [HK.out, List.take_of_length_le (by omega), List.take_of_length_le (by omega), List.drop_of_length_le (by omega), List.drop_of_length_le (by omega)]; simp, S1.out⟩
end Go.Proofs.Ytkhpoeolnhfflaa
