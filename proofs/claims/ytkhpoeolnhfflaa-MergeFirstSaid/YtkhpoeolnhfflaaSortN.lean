/-
  slices.symMergeCmpFunc over any program that bears it, where the right piece is one element: they are merged. Conditions: the row holds the elements; 'cmp' is answered.
-/
import Derived.Test.YtkhpoeolnhfflaaSortM
set_option linter.unusedSimpArgs false
set_option linter.unusedVariables false
namespace Go.Proofs.Ytkhpoeolnhfflaa
open Go.Shelf Go.RowKit Go.Lib Go.Sort
variable {P : Program} {α : Type} [Inhabited α]

set_option maxHeartbeats 4000000 in
set_option maxRecDepth 1000000 in
theorem symMerge_right {k : Nat} (L : SortLays P k) (enc : α → List Value) (cf : α → α → Int) (SO : SWO (ltOf cf)) (g : Nat) (cb : Array Value) (blk off cap a m b : Nat) (d0 d : Array α) (w0 w : World) (R : RowK enc k w0 blk off d0) (hs : d0.size = d.size) (hsz : d0.size < 4611686018427387904)
    (eg : ∀ args w, (callFunc g args).run P w = .ok (.enter g args) w) (hcmp : CmpLays P g cb enc k cf blk off d0.size w0) (X U Q : List α) (y : α)
    (h : d.toList = X ++ U ++ [y] ++ Q) (ha : a = X.length) (hm : m = X.length + U.length) (hb : b = X.length + U.length + 1) (uU : Up (ltOf cf) U) (S : SWK enc k w0 blk off d w) (hu0 : 1 < U.length) :
    Calls P 61 #[.slice (some ⟨blk, off, none⟩) d0.size cap, .int .i64 a, .int .i64 m, .int .i64 b, .func (.func g) #[] cb] w fun e w' =>
      e = .returned (.tuple #[]) ∧ ∃ d' : Array α, d'.size = d0.size ∧ d'.toList = X ++ mrg (ltOf cf) U [y] ++ Q ∧ SWK enc k w0 blk off d' w' := by
  have mixed := L.mixed; have t0 := L.t0; have a0 := L.a0; have z0 := L.z0; have v0 := L.v0; have t3 := L.t3; have a3 := L.a3; have z3 := L.z3; have v3 := L.v3; have t4 := L.t4; have a4 := L.a4; have z4 := L.z4; have v4 := L.v4; have ts := L.ts; have as1 := L.as1; have zs := L.zs; have vs := L.vs; have aE := L.aE; have zE := L.zE; have tu := L.tu; have au := L.au; have zu := L.zu; have vu := L.vu
  have hsd : d0.size = X.length + U.length + 1 + Q.length := by rw [hs, ← Array.length_toList, h]; simp; omega
  have S0 : Aside (SWK enc k w0 blk off d w) := S
  have HC : Aside _ := hcmp
  have HD : Hid (d.toList = X ++ U ++ [y] ++ Q ∧ a = X.length ∧ m = X.length + U.length ∧ b = X.length + U.length + 1) := ⟨h, ha, hm, hb⟩
  have MO := Lib.hid (mono_one_right SO (d := d) (P := X) (X := U) (Y := [y]) (Q := Q) h uU y a ha)
  have HX := Lib.hid ((get_at (d := d) (P := X ++ U) (x := y) (Q := Q) (by rw [h]; simp) m (by simp; omega)).1)
  have hmb : b = m + 1 := by omega
  have ham : a < m := by omega
  have hbs : b ≤ d0.size := by omega
  have hmv : m = a + U.length := by omega
  have ne1 : ¬ (m : Int) - (a : Int) = 1 := by omega
  have ne1' : ((m : Int) - (a : Int) == 1) = false := beq_eq_false_iff_ne.2 ne1
  have e1 : (b : Int) - (m : Int) = 1 := by omega
  have FG := L.fM
  have hh := Lib.hid hs.symm
  have HMV := Lib.hid hmv
  have HMB := Lib.hid hmb
  have hmz : m < d0.size := by omega
  clear S h ha hb hm hsd L hs hcmp uU hmv hmb
  go_enter FG, Try.ntmps61
  go_wp2
  go_loopw [14, 15] (fun iv jv wr => ∃ (i j : Nat), iv = .int .i64 i ∧ jv = .int .i64 j ∧ a ≤ i ∧ i ≤ j ∧ j ≤ m ∧ Hid (Srch (fun c => ltOf cf y d[c]!) a m i j) ∧ Aside (SWK enc k w0 blk off d wr))
    (fun iv jv _ => (RowKit.intOf jv).toNat - (RowKit.intOf iv).toNat)
  case atStart => exact ⟨a, m, rfl, rfl, Nat.le_refl _, by omega, Nat.le_refl _, Srch.start (by omega), S0⟩
  case round =>
    clear S0
    obtain ⟨i, j, rfl, rfl, hmi, hij, hjb, HS, S1⟩ := hrel
    by_cases hlt : i < j
    · obtain ⟨h, hh2⟩ : ∃ h, h = (i + j) / 2 := ⟨_, rfl⟩
      have eh : ((i : Int) + (j : Int)) / 2 = (h : Int) := by omega
      have h1 : i ≤ h := by omega
      have h2 : h < j := by omega
      clear hh2
      have ba : (h : Int) < (d0.size : Int) := by omega
      have bc : (m : Int) < (d0.size : Int) := by omega
      obtain ⟨x, hx⟩ : ∃ x, x = d[h]! := ⟨_, rfl⟩
      have la := S1.out.ld R hh.out P m (by rw [hh.out]; omega)
      have lb := S1.out.ld R hh.out P h (by rw [hh.out]; omega)
      rw [← hx] at lb
      rw [HX.out] at la
      have hc := S1.out.cmp HC.out hh.out y x
      have HY := Lib.hid hx
      clear hx
      by_cases hv : cf y x < 0
      · have hd : decide (cf y x < 0) = true := decide_eq_true hv
        have HS2 : Hid (Srch (fun c => ltOf cf y d[c]!) a m i h) := HS.out.right (by rw [HMV.out]; exact MO.out) h1 h2 (by rw [← HY.out]; unfold ltOf; rw [hd])
        clear HS
        go_wp2_with fail
        go_quiet_grown (first | (go_at_fn g; refine Calls.grown_of (hc _ _)))
        have S2 : Aside (SWK enc k w0 blk off d (grow (wr.drewN nq) osq)) := S1.out.grown nq osq
        clear la lb hc S1
        generalize grow (wr.drewN nq) osq = w2 at S2 ⊢
        clear nq osq
        go_wp2_with fail
        go_roundw
        case rel => exact ⟨i, h, rfl, rfl, hmi, h1, by omega, HS2, S2⟩
        case measure => simp [RowKit.intOf]; omega
      · have hd : decide (cf y x < 0) = false := decide_eq_false hv
        have HS2 : Hid (Srch (fun c => ltOf cf y d[c]!) a m (h + 1) j) := HS.out.left (by rw [HMV.out]; exact MO.out) h1 h2 (by rw [← HY.out]; unfold ltOf; rw [hd])
        clear HS
        go_wp2_with fail
        go_quiet_grown (first | (go_at_fn g; refine Calls.grown_of (hc _ _)))
        have S2 : Aside (SWK enc k w0 blk off d (grow (wr.drewN nq) osq)) := S1.out.grown nq osq
        clear la lb hc S1
        generalize grow (wr.drewN nq) osq = w2 at S2 ⊢
        clear nq osq
        go_wp2_with fail
        go_roundw
        case rel => exact ⟨h + 1, j, by go_num, rfl, by omega, by omega, hjb, HS2, S2⟩
        case measure => simp [RowKit.intOf]; omega
    · obtain rfl : i = j := by omega
      obtain ⟨U1, U2, hU, hl1, hz1, hz2⟩ := pieces_one (f := fun c => ltOf cf y d[c]!) (fun z => ltOf cf y z) (lo := a) (s := i) U (by rw [← HMV.out]; exact HS.out) (fun c hc => by
        obtain ⟨q1, q2, q3, q4⟩ := HD.out
        have := get_in (d := d) (P := X) (X := U) (Q := [y] ++ Q) (by rw [q1]; simp) c hc
        rw [← q2] at this
        simp only [this])
      have HP : Hid (U = U1 ++ U2 ∧ (∀ z ∈ U1, ltOf cf y z = false) ∧ (∀ z ∈ U2, ltOf cf y z = true)) := ⟨hU, hz1, hz2⟩
      have hmi2 : m = i + U2.length := by
        have := HMV.out
        rw [hU, List.length_append] at this
        omega
      have HL := Lib.hid hl1
      have HM2 := Lib.hid hmi2
      clear hU hl1 hz1 hz2 HS hmi2
      go_wp2_with fail
      go_loopw [17] (fun kv wr => ∃ (t p : Nat) (dk : Array α), kv = .int .i64 p ∧ Hid (p = i + t) ∧ p ≤ m ∧ i ≤ p ∧ dk.size = d0.size ∧ Hid (dk.toList = X ++ U1 ++ U2.take t ++ y :: (U2.drop t ++ Q)) ∧ Aside (SWK enc k w0 blk off dk wr)) (fun kv _ => (RowKit.intOf kv).toNat - i)
      case atStart =>
        obtain ⟨q1, q2, q3, q4⟩ := HD.out
        exact ⟨U2.length, m, d, rfl, HM2.out, Nat.le_refl _, by omega, hh.out, by show _ = _; rw [q1, HP.out.1, List.take_length, List.drop_length]; simp, S1⟩
      case round =>
        clear S1
        obtain ⟨t, p, dk, rfl, HT, hpm, hip, hds, HK, S1⟩ := hrel
        by_cases htt : i < p
        · obtain ⟨q, rfl⟩ : ∃ q, p = q + 1 := ⟨p - 1, by omega⟩
          obtain ⟨t', ht'⟩ : ∃ t', t = t' + 1 := ⟨t - 1, by have := HT.out; omega⟩
          have hcmp : (i : Int) < (q : Int) + 1 := by omega
          have hct : t' < U2.length := by have := HT.out; have := HM2.out; omega
          have HQ : Hid (q = i + t') := by show _ = _; have := HT.out; omega
          have HK2 : Hid (dk.toList = X ++ U1 ++ U2.take (t' + 1) ++ y :: (U2.drop (t' + 1) ++ Q)) := by rw [← ht']; exact HK
          clear ht' HT HK
          have pc : (0 : Int) ≤ (q : Int) + 1 := by omega
          have bc : (q : Int) + 1 < (d0.size : Int) := by omega
          have ba : (q : Int) < (d0.size : Int) := by omega
          have ec : ((q : Int) + 1).toNat = q + 1 := by omega
          have rc : IntKind.i64.wrap ((q : Int) + 1) = (q : Int) + 1 := by rw [IntKind.wrap_i64]; omega
          have ra : IntKind.i64.wrap (q : Int) = (q : Int) := by rw [IntKind.wrap_i64]; omega
          go_wp2_with fail
          have S2 : Aside (SWK enc k w0 blk off (swp dk (q + 1) q) ((wr.drew.setCells blk (off + (q + 1) * k) (enc dk[q]!)).setCells blk (off + q * k) (enc dk[q + 1]!))) := S1.out.swapped R (q + 1) q (by omega) (by omega)
          have la := S1.out.ld1 R (by omega) P (q + 1) (by omega)
          have lb := S1.out.ld1 R (by omega) P q (by omega)
          have sa := S1.out.st1 R (by omega) P (q + 1) (by omega) dk[q]!
          have sb := S1.out.st2 R (by omega) P (q + 1) q (by omega) (by omega) dk[q]! dk[q + 1]!
          have na : (enc dk[q + 1]!).length = k := R.hk _
          have nb : (enc dk[q]!).length = k := R.hk _
          generalize enc dk[q + 1]! = cI at S2 la sb na
          generalize enc dk[q]! = cJ at S2 lb sa sb nb
          clear S1
          go_wp2_with fail
          go_big_region_o
          clear la lb sa sb
          generalize (wr.drew.setCells blk (off + (q + 1) * k) cJ).setCells blk (off + q * k) cI = w2 at S2 ⊢
          go_wp2
          go_roundw
          case rel => exact ⟨t', q, _, by first | rfl | go_num, HQ.out, by omega, by omega, by rw [size_swp]; exact hds, (by obtain ⟨q1, q2, q3, q4⟩ := HD.out; have := HQ.out; have := HL.out; exact left_step HK2.out hct _ _ (by simp; omega) rfl), S2⟩
          case measure => simp [RowKit.intOf]; omega
        · obtain rfl : p = i := by omega
          go_wp2
          refine bodyPost_ret (results_none rfl _ _ _) rfl ?_
          obtain ⟨q1, q2, q3, q4⟩ := HD.out
          obtain ⟨p1, p2, p3⟩ := HP.out
          have : t = 0 := by have := HT.out; omega
          subst this
          exact ⟨rfl, dk, hds, by rw [HK.out, p1, mrg_one_right y U1 U2 p2 p3]; simp, S1.out⟩
end Go.Proofs.Ytkhpoeolnhfflaa
