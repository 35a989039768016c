/-
  slices.symMergeCmpFunc over any program that bears it, where one of the two pieces is one element: they are merged. Conditions: the row holds the elements; 'cmp' is answered.
-/
import Derived.Test.YtkhpoeolnhfflaaSortR
set_option linter.unusedSimpArgs false
set_option linter.unusedVariables false
namespace Go.Proofs.Ytkhpoeolnhfflaa
open Go.Shelf Go.RowKit Go.Lib Go.Sort
variable {P : Program} {α : Type} [Inhabited α]

set_option maxHeartbeats 4000000 in
set_option maxRecDepth 1000000 in
theorem symMerge_left {k : Nat} (L : SortLays P k) (enc : α → List Value) (cf : α → α → Int) (SO : SWO (ltOf cf)) (g : Nat) (cb : Array Value) (blk off cap a m b : Nat) (d0 d : Array α) (w0 w : World) (R : RowK enc k w0 blk off d0) (hs : d0.size = d.size) (hsz : d0.size < 4611686018427387904)
    (eg : ∀ args w, (callFunc g args).run P w = .ok (.enter g args) w) (hcmp : CmpLays P g cb enc k cf blk off d0.size w0) (X V Q : List α) (x : α)
    (h : d.toList = X ++ [x] ++ V ++ Q) (ha : a = X.length) (hm : m = X.length + 1) (hb : b = X.length + 1 + V.length) (uV : Up (ltOf cf) V) (S : SWK enc k w0 blk off d w) (hv0 : 0 < V.length) :
    Calls P 61 #[.slice (some ⟨blk, off, none⟩) d0.size cap, .int .i64 a, .int .i64 m, .int .i64 b, .func (.func g) #[] cb] w fun e w' =>
      e = .returned (.tuple #[]) ∧ ∃ d' : Array α, d'.size = d0.size ∧ d'.toList = X ++ mrg (ltOf cf) [x] V ++ Q ∧ SWK enc k w0 blk off d' w' := by
  have mixed := L.mixed; have t0 := L.t0; have a0 := L.a0; have z0 := L.z0; have v0 := L.v0; have t3 := L.t3; have a3 := L.a3; have z3 := L.z3; have v3 := L.v3; have t4 := L.t4; have a4 := L.a4; have z4 := L.z4; have v4 := L.v4; have ts := L.ts; have as1 := L.as1; have zs := L.zs; have vs := L.vs; have aE := L.aE; have zE := L.zE; have tu := L.tu; have au := L.au; have zu := L.zu; have vu := L.vu
  have hsd : d0.size = X.length + 1 + V.length + Q.length := by rw [hs, ← Array.length_toList, h]; simp; omega
  have S0 : Aside (SWK enc k w0 blk off d w) := S
  have HC : Aside _ := hcmp
  have HD : Hid (d.toList = X ++ [x] ++ V ++ Q ∧ a = X.length ∧ m = X.length + 1 ∧ b = X.length + 1 + V.length) := ⟨h, ha, hm, hb⟩
  have MO := Lib.hid (mono_one_left SO (d := d) (P := X) (X := [x]) (Y := V) (Q := Q) h uV x m (by simp; omega))
  have HX := Lib.hid ((get_at (d := d) (P := X) (x := x) (Q := V ++ Q) (by rw [h]; simp) a ha).1)
  have ham : m = a + 1 := by omega
  have hmb : m < b := by omega
  have hbs : b ≤ d0.size := by omega
  have hmv : b = m + V.length := by omega
  have e1 : (m : Int) - (a : Int) = 1 := by omega
  have FG := L.fM
  have hh := Lib.hid hs.symm
  have HMV := Lib.hid hmv
  have HAM := Lib.hid ham
  have haz : a < d0.size := by omega
  have hmz : a < m := by omega
  clear S h ha hb hm hsd L hs hcmp uV hmv ham
  go_enter FG, Try.ntmps61
  go_wp2
  go_loopw [10, 11] (fun iv jv wr => ∃ (i j : Nat), iv = .int .i64 i ∧ jv = .int .i64 j ∧ m ≤ i ∧ i ≤ j ∧ j ≤ b ∧ Hid (Srch (fun c => !ltOf cf d[c]! x) m b i j) ∧ Aside (SWK enc k w0 blk off d wr))
    (fun iv jv _ => (RowKit.intOf jv).toNat - (RowKit.intOf iv).toNat)
  case atStart => exact ⟨m, b, rfl, rfl, Nat.le_refl _, by omega, Nat.le_refl _, Srch.start (by omega), S0⟩
  case round =>
    clear S0
    obtain ⟨i, j, rfl, rfl, hmi, hij, hjb, HS, S1⟩ := hrel
    by_cases hlt : i < j
    · obtain ⟨h, hh2⟩ : ∃ h, h = (i + j) / 2 := ⟨_, rfl⟩
      have eh : ((i : Int) + (j : Int)) / 2 = (h : Int) := by omega
      have h1 : i ≤ h := by omega
      have h2 : h < j := by omega
      clear hh2
      have ba : (h : Int) < (d0.size : Int) := by omega
      have bc : (a : Int) < (d0.size : Int) := by omega
      obtain ⟨y, hy⟩ : ∃ y, y = d[h]! := ⟨_, rfl⟩
      have la := S1.out.ld R hh.out P h (by rw [hh.out]; omega)
      have lb := S1.out.ld R hh.out P a (by rw [hh.out]; omega)
      rw [← hy] at la
      rw [HX.out] at lb
      have hc := S1.out.cmp HC.out hh.out y x
      have HY := Lib.hid hy
      clear hy
      by_cases hv : cf y x < 0
      · have hd : decide (cf y x < 0) = true := decide_eq_true hv
        have HS2 : Hid (Srch (fun c => !ltOf cf d[c]! x) m b (h + 1) j) := HS.out.left (by rw [HMV.out]; exact MO.out) h1 h2 (by rw [← HY.out]; unfold ltOf; rw [hd]; rfl)
        clear HS
        go_wp2_with fail
        go_quiet_grown (first | (go_at_fn g; refine Calls.grown_of (hc _ _)))
        have S2 : Aside (SWK enc k w0 blk off d (grow (wr.drewN nq) osq)) := S1.out.grown nq osq
        clear la lb hc S1
        generalize grow (wr.drewN nq) osq = w2 at S2 ⊢
        clear nq osq
        go_wp2_with fail
        go_roundw
        case rel => exact ⟨h + 1, j, by go_num, rfl, by omega, by omega, hjb, HS2, S2⟩
        case measure => simp [RowKit.intOf]; omega
      · have hd : decide (cf y x < 0) = false := decide_eq_false hv
        have HS2 : Hid (Srch (fun c => !ltOf cf d[c]! x) m b i h) := HS.out.right (by rw [HMV.out]; exact MO.out) h1 h2 (by rw [← HY.out]; unfold ltOf; rw [hd]; rfl)
        clear HS
        go_wp2_with fail
        go_quiet_grown (first | (go_at_fn g; refine Calls.grown_of (hc _ _)))
        have S2 : Aside (SWK enc k w0 blk off d (grow (wr.drewN nq) osq)) := S1.out.grown nq osq
        clear la lb hc S1
        generalize grow (wr.drewN nq) osq = w2 at S2 ⊢
        clear nq osq
        go_wp2_with fail
        go_roundw
        case rel => exact ⟨i, h, rfl, rfl, hmi, h1, by omega, HS2, S2⟩
        case measure => simp [RowKit.intOf]; omega
    · obtain rfl : i = j := by omega
      obtain ⟨V1, V2, hV, hl1, hz1, hz2⟩ := pieces_one (f := fun c => !ltOf cf d[c]! x) (fun z => !ltOf cf z x) (lo := m) (s := i) V (by rw [← HMV.out]; exact HS.out) (fun c hc => by
        obtain ⟨q1, q2, q3, q4⟩ := HD.out
        have := get_in (d := d) (P := X ++ [x]) (X := V) (Q := Q) q1 c hc
        rw [show (X ++ [x]).length = m by simp; omega] at this
        simp only [this])
      have HP : Hid (V = V1 ++ V2 ∧ (∀ z ∈ V1, ltOf cf z x = true) ∧ (∀ z ∈ V2, ltOf cf z x = false)) := ⟨hV, fun z hz => by simpa using hz1 z hz, fun z hz => by simpa using hz2 z hz⟩
      have ei : (i : Int) - 1 = (a : Int) + (V1.length : Int) := by omega
      have hai : a + V1.length < d0.size := by omega
      have HL := Lib.hid hl1
      clear hV hl1 hz1 hz2 HS
      go_wp2_with fail
      go_loopw [13] (fun kv wr => ∃ (t : Nat) (dk : Array α), kv = .int .i64 ((a : Int) + (t : Int)) ∧ t ≤ V1.length ∧ dk.size = d0.size ∧ Hid (dk.toList = X ++ V1.take t ++ x :: (V1.drop t ++ (V2 ++ Q))) ∧ Aside (SWK enc k w0 blk off dk wr)) (fun kv _ => (a + V1.length) - (RowKit.intOf kv).toNat)
      case atStart =>
        obtain ⟨q1, q2, q3, q4⟩ := HD.out
        exact ⟨0, d, by simp, Nat.zero_le _, hh.out, by show _ = _; rw [q1, HP.out.1]; simp, S1⟩
      case round =>
        clear S1
        obtain ⟨t, dk, rfl, htl, hds, HK, S1⟩ := hrel
        by_cases htt : t < V1.length
        · have hcmp : (a : Int) + (t : Int) < (a : Int) + (V1.length : Int) := by omega
          go_wp2_with fail
          have ea : ((a : Int) + (t : Int)).toNat = a + t := by omega
          have pa : (0 : Int) ≤ (a : Int) + (t : Int) := by omega
          have ba : (a : Int) + (t : Int) < (d0.size : Int) := by omega
          have ra : IntKind.i64.wrap ((a : Int) + (t : Int)) = (a : Int) + (t : Int) := by rw [IntKind.wrap_i64]; omega
          have ec : ((a : Int) + (t : Int) + 1).toNat = a + t + 1 := by omega
          have pc : (0 : Int) ≤ (a : Int) + (t : Int) + 1 := by omega
          have bc : (a : Int) + (t : Int) + 1 < (d0.size : Int) := by omega
          have rc : IntKind.i64.wrap ((a : Int) + (t : Int) + 1) = (a : Int) + (t : Int) + 1 := by rw [IntKind.wrap_i64]; omega
          have S2 : Aside (SWK enc k w0 blk off (swp dk (a + t) (a + t + 1)) ((wr.drew.setCells blk (off + (a + t) * k) (enc dk[a + t + 1]!)).setCells blk (off + (a + t + 1) * k) (enc dk[a + t]!))) := S1.out.swapped R (a + t) (a + t + 1) (by omega) (by omega)
          have la := S1.out.ld1 R (by omega) P (a + t) (by omega)
          have lb := S1.out.ld1 R (by omega) P (a + t + 1) (by omega)
          have sa := S1.out.st1 R (by omega) P (a + t) (by omega) dk[a + t + 1]!
          have sb := S1.out.st2 R (by omega) P (a + t) (a + t + 1) (by omega) (by omega) dk[a + t + 1]! dk[a + t]!
          have na : (enc dk[a + t]!).length = k := R.hk _
          have nb : (enc dk[a + t + 1]!).length = k := R.hk _
          generalize enc dk[a + t]! = cI at S2 la sb na
          generalize enc dk[a + t + 1]! = cJ at S2 lb sa sb nb
          clear S1
          go_wp2_with fail
          go_big_region_o
          clear la lb sa sb
          generalize (wr.drew.setCells blk (off + (a + t) * k) cJ).setCells blk (off + (a + t + 1) * k) cI = w2 at S2 ⊢
          go_wp2
          go_roundw
          case rel => exact ⟨t + 1, _, by go_num, by omega, by rw [size_swp]; exact hds, (by obtain ⟨q1, q2, q3, q4⟩ := HD.out; exact right_step HK.out htt _ _ (by omega) rfl), S2⟩
          case measure => simp [RowKit.intOf]; omega
        · obtain rfl : t = V1.length := by omega
          go_wp2
          refine bodyPost_ret (results_none rfl _ _ _) rfl ?_
          obtain ⟨q1, q2, q3, q4⟩ := HD.out
          obtain ⟨p1, p2, p3⟩ := HP.out
          exact ⟨rfl, dk, hds, by rw [HK.out, p1, mrg_one_left x V1 V2 p2 p3, List.take_length, List.drop_length]; simp, S1.out⟩
end Go.Proofs.Ytkhpoeolnhfflaa
