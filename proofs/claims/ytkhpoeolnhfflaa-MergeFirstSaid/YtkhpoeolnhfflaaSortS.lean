/-
  slices.symMergeCmpFunc over any program that bears it: two neighbouring pieces in order are merged, equal ones as they stood. Conditions: the row holds the elements; 'cmp' is answered.
-/
import Derived.Test.YtkhpoeolnhfflaaSortN
set_option linter.unusedSimpArgs false
set_option linter.unusedVariables false
namespace Go.Proofs.Ytkhpoeolnhfflaa
open Go.Shelf Go.RowKit Go.Lib Go.Sort
variable {P : Program} {α : Type} [Inhabited α]

/-- What a call of symMerge answers. -/
def SymM (P : Program) (enc : α → List Value) (k : Nat) (lt : α → α → Bool) (blk off cap g : Nat) (cb : Array Value) (d0 : Array α) (w0 : World) (N : Nat) : Prop :=
  ∀ (a m b : Nat) (d : Array α) (w : World) (X U V Q : List α), b ≤ N + a → d0.size = d.size → d.toList = X ++ U ++ V ++ Q → a = X.length → m = X.length + U.length → b = X.length + U.length + V.length → 0 < U.length → 0 < V.length → Up lt U → Up lt V → SWK enc k w0 blk off d w →
    Calls P 61 #[.slice (some ⟨blk, off, none⟩) d0.size cap, .int .i64 a, .int .i64 m, .int .i64 b, .func (.func g) #[] cb] w fun e w' =>
      e = .returned (.tuple #[]) ∧ ∃ d' : Array α, d'.size = d0.size ∧ d'.toList = X ++ mrg lt U V ++ Q ∧ SWK enc k w0 blk off d' w'

set_option maxHeartbeats 16000000 in
set_option maxRecDepth 1000000 in
theorem symMerge_many {k : Nat} (L : SortLays P k) (enc : α → List Value) (cf : α → α → Int) (SO : SWO (ltOf cf)) (g : Nat) (cb : Array Value) (blk off cap : Nat) (d0 : Array α) (w0 : World) (R : RowK enc k w0 blk off d0) (hsz : d0.size < 4611686018427387904)
    (eg : ∀ args w, (callFunc g args).run P w = .ok (.enter g args) w) (hcmp : CmpLays P g cb enc k cf blk off d0.size w0) (N : Nat) (ih : SymM P enc k (ltOf cf) blk off cap g cb d0 w0 N)
    (a m b : Nat) (d : Array α) (w : World) (X U V Q : List α) (hN : b ≤ N + 1 + a) (hs : d0.size = d.size) (h : d.toList = X ++ U ++ V ++ Q) (ha : a = X.length) (hm : m = X.length + U.length) (hb : b = X.length + U.length + V.length)
    (hu0 : 1 < U.length) (hv0 : 1 < V.length) (uU : Up (ltOf cf) U) (uV : Up (ltOf cf) V) (S : SWK enc k w0 blk off d w) :
    Calls P 61 #[.slice (some ⟨blk, off, none⟩) d0.size cap, .int .i64 a, .int .i64 m, .int .i64 b, .func (.func g) #[] cb] w fun e w' =>
      e = .returned (.tuple #[]) ∧ ∃ d' : Array α, d'.size = d0.size ∧ d'.toList = X ++ mrg (ltOf cf) U V ++ Q ∧ SWK enc k w0 blk off d' w' := by
  have mixed := L.mixed; have t0 := L.t0; have a0 := L.a0; have z0 := L.z0; have v0 := L.v0; have t3 := L.t3; have a3 := L.a3; have z3 := L.z3; have v3 := L.v3; have t4 := L.t4; have a4 := L.a4; have z4 := L.z4; have v4 := L.v4; have ts := L.ts; have as1 := L.as1; have zs := L.zs; have vs := L.vs; have aE := L.aE; have zE := L.zE; have tu := L.tu; have au := L.au; have zu := L.zu; have vu := L.vu
  have hsd : d0.size = X.length + U.length + V.length + Q.length := by rw [hs, ← Array.length_toList, h]; simp; omega
  have eR : ∀ args w, (callFunc 62 args).run P w = .ok (.enter 62 args) w := enters_of L.fR (by kernel_rfl) rfl
  have eM : ∀ args w, (callFunc 61 args).run P w = .ok (.enter 61 args) w := enters_of L.fM (by kernel_rfl) rfl
  have HRO : Hid (∀ (a m b : Nat) (d : Array α) (w : World) (X U V Q : List α), d0.size = d.size → d.toList = X ++ U ++ V ++ Q → a = X.length → m = X.length + U.length → b = X.length + U.length + V.length → SWK enc k w0 blk off d w → 0 < U.length → 0 < V.length →
      Calls P 62 #[.slice (some ⟨blk, off, none⟩) d0.size cap, .int .i64 a, .int .i64 m, .int .i64 b, .func (.func g) #[] cb] w fun e w' =>
        e = .returned (.tuple #[]) ∧ ∃ d' : Array α, d'.size = d0.size ∧ d'.toList = X ++ V ++ U ++ Q ∧ SWK enc k w0 blk off d' w') :=
    fun a m b d w X U V Q hs h ha hm hb S hu hv => rotate_any L enc _ blk off cap a m b d0 d w0 w R hs hsz X U V Q h ha hm hb S hu hv
  have IH := Lib.hid ih
  have S0 : Aside (SWK enc k w0 blk off d w) := S
  have HC : Aside _ := hcmp
  have HD : Hid (d.toList = X ++ U ++ V ++ Q ∧ a = X.length ∧ m = a + U.length ∧ b = m + V.length) := ⟨h, ha, by omega, by omega⟩
  obtain ⟨mid, hmid⟩ : ∃ mid, mid = (a + b) / 2 := ⟨_, rfl⟩
  have emid : ((a : Int) + (b : Int)) / 2 = (mid : Int) := by omega
  have FG := L.fM
  have hh := Lib.hid hs.symm
  have hbs : b ≤ d0.size := by omega
  have ham : a + 1 < m := by omega
  have hmb : m + 1 < b := by omega
  have hamid : a + 1 < mid := by omega
  have hmidb : mid + 1 < b := by omega
  have hN1 : mid ≤ N + a := by omega
  have hN2 : b ≤ N + mid := by omega
  have ne1 : ¬ (m : Int) - (a : Int) = 1 := by omega
  have ne1' : ((m : Int) - (a : Int) == 1) = false := beq_eq_false_iff_ne.2 ne1
  have ne2 : ¬ (b : Int) - (m : Int) = 1 := by omega
  have ne2' : ((b : Int) - (m : Int) == 1) = false := beq_eq_false_iff_ne.2 ne2
  obtain ⟨pp, hpp⟩ : ∃ pp, pp = mid + m - 1 := ⟨_, rfl⟩
  have epp : (mid : Int) + (m : Int) - 1 = (pp : Int) := by omega
  have SPL := Lib.hid (fun lo hi hlo => symm_pieces SO (d := d) (P := X) (X := U) (Y := V) (Q := Q) h uU uV a m b mid lo hi ha (by omega) (by omega) (by omega) (by omega) hmid hlo)
  have HPP := Lib.hid hpp
  have hlo : (mid < m ∧ mid + m - b + 0 = mid + m - b ∧ mid = mid) ∨ (m ≤ mid ∧ a = a ∧ m = m) := by omega
  have UU := Lib.hid uU
  have UV := Lib.hid uV
  have hpz : pp < 9223372036854775807 := by omega
  have hmp : mid ≤ pp ∧ m ≤ pp ∧ pp < mid + m := by omega
  have hab2 : mid + mid ≤ a + b ∧ a + b ≤ mid + mid + 1 := by omega
  clear S h ha hb hm hsd L hs hcmp uU uV hmid hpp ih hN hu0 hv0
  rcases hlo with ⟨hlt0, -, -⟩ | ⟨hlt0, -, -⟩
  · have hdm : (mid : Int) < (m : Int) := by omega
    obtain ⟨lo, hlo⟩ : ∃ lo, lo = mid + m - b := ⟨_, rfl⟩
    have elo : (mid : Int) + (m : Int) - (b : Int) = (lo : Int) := by omega
    have hlo2 : a ≤ lo ∧ lo ≤ mid ∧ lo + b = mid + m := by omega
    have SP := Lib.hid (SPL.out lo mid (.inl ⟨hlt0, hlo, rfl⟩))
    clear SPL hlo
    go_enter FG, Try.ntmps61
    go_wp2
    go_loopw [20, 21] (fun iv jv wr => ∃ (i j : Nat), iv = .int .i64 i ∧ jv = .int .i64 j ∧ lo ≤ i ∧ i ≤ j ∧ j ≤ mid ∧ Hid (Srch (fun c => ltOf cf d[mid + m - 1 - c]! d[c]!) lo mid i j) ∧ Aside (SWK enc k w0 blk off d wr))
      (fun iv jv _ => (RowKit.intOf jv).toNat - (RowKit.intOf iv).toNat)
    case atStart => exact ⟨lo, mid, rfl, rfl, Nat.le_refl _, by omega, Nat.le_refl _, Srch.start (by omega), S0⟩
    case round =>
      clear S0
      obtain ⟨i, j, rfl, rfl, hmi, hij, hjb, HS, S1⟩ := hrel
      by_cases hlt : i < j
      · obtain ⟨c, hc2⟩ : ∃ c, c = (i + j) / 2 := ⟨_, rfl⟩
        have eh : ((i : Int) + (j : Int)) / 2 = (c : Int) := by omega
        have h1 : i ≤ c := by omega
        have h2 : c < j := by omega
        clear hc2
        obtain ⟨q, hq⟩ : ∃ q, q = pp - c := ⟨_, rfl⟩
        have eq : (pp : Int) - (c : Int) = (q : Int) := by omega
        have ba : (c : Int) < (d0.size : Int) := by omega
        have bc : (q : Int) < (d0.size : Int) := by omega
        have rq : IntKind.i64.wrap ((pp : Int) - (c : Int)) = (pp : Int) - (c : Int) := by rw [IntKind.wrap_i64]; omega
        have rq2 : IntKind.i64.wrap (q : Int) = (q : Int) := by rw [IntKind.wrap_i64]; omega
        obtain ⟨x, hx⟩ : ∃ x, x = d[c]! := ⟨_, rfl⟩
        obtain ⟨y, hy⟩ : ∃ y, y = d[q]! := ⟨_, rfl⟩
        have la := S1.out.ld R hh.out P q (by rw [hh.out]; omega)
        have lb := S1.out.ld R hh.out P c (by rw [hh.out]; omega)
        rw [← hx] at lb
        rw [← hy] at la
        have hc := S1.out.cmp HC.out hh.out y x
        have HY : Hid (ltOf cf d[mid + m - 1 - c]! d[c]! = decide (cf y x < 0)) := by
          show _ = _
          rw [← HPP.out, ← hq, ← hx, ← hy]; rfl
        clear hx hy hq
        by_cases hv : cf y x < 0
        · have hd : decide (cf y x < 0) = true := decide_eq_true hv
          have HS2 : Hid (Srch (fun c => ltOf cf d[mid + m - 1 - c]! d[c]!) lo mid i c) := HS.out.right SP.out.1 h1 h2 (by rw [HY.out, hd])
          clear HS
          go_wp2_with fail
          go_quiet_grown (first | (go_at_fn g; refine Calls.grown_of (hc _ _)))
          have S2 : Aside (SWK enc k w0 blk off d (grow (wr.drewN nq) osq)) := S1.out.grown nq osq
          clear la lb hc S1
          generalize grow (wr.drewN nq) osq = w2 at S2 ⊢
          clear nq osq
          go_wp2_with fail
          go_roundw
          case rel => exact ⟨i, c, rfl, rfl, hmi, h1, by omega, HS2, S2⟩
          case measure => simp [RowKit.intOf]; omega
        · have hd : decide (cf y x < 0) = false := decide_eq_false hv
          have HS2 : Hid (Srch (fun c => ltOf cf d[mid + m - 1 - c]! d[c]!) lo mid (c + 1) j) := HS.out.left SP.out.1 h1 h2 (by rw [HY.out, hd])
          clear HS
          go_wp2_with fail
          go_quiet_grown (first | (go_at_fn g; refine Calls.grown_of (hc _ _)))
          have S2 : Aside (SWK enc k w0 blk off d (grow (wr.drewN nq) osq)) := S1.out.grown nq osq
          clear la lb hc S1
          generalize grow (wr.drewN nq) osq = w2 at S2 ⊢
          clear nq osq
          go_wp2_with fail
          go_roundw
          case rel => exact ⟨c + 1, j, by go_num, rfl, by omega, by omega, hjb, HS2, S2⟩
          case measure => simp [RowKit.intOf]; omega
      · obtain rfl : i = j := by omega
        obtain ⟨U1, U2, V1, V2, hU, hV, hu1, hv1, hle, hlt2⟩ := SP.out.2 i HS.out
        have hl : U.length = U1.length + U2.length ∧ V.length = V1.length + V2.length := by rw [hU, hV]; simp
        obtain ⟨q1, q2, q3, q4⟩ := HD.out
        obtain ⟨en, hen⟩ : ∃ en, en = mid + m - i := ⟨_, rfl⟩
        have een : (mid : Int) + (m : Int) - (i : Int) = (en : Int) := by omega
        have hz1 : i = a + U1.length ∧ mid = i + V1.length ∧ m = i + U2.length ∧ en = m + V1.length ∧ en = mid + U2.length ∧ b = en + V2.length := by omega
        have UP := Lib.hid (show Up (ltOf cf) U1 ∧ Up (ltOf cf) U2 ∧ Up (ltOf cf) V1 ∧ Up (ltOf cf) V2 from by
          have e1 := UU.out; have e2 := UV.out
          rw [hU] at e1; rw [hV] at e2
          exact ⟨(List.pairwise_append.1 e1).1, (List.pairwise_append.1 e1).2.1, (List.pairwise_append.1 e2).1, (List.pairwise_append.1 e2).2.1⟩)
        have HK : Hid (d.toList = X ++ U1 ++ U2 ++ V1 ++ (V2 ++ Q)) := by show _ = _; rw [q1, hU, hV]; simp
        have HF : Hid (X ++ mrg (ltOf cf) U1 V1 ++ mrg (ltOf cf) U2 V2 ++ Q = X ++ mrg (ltOf cf) U V ++ Q) := by show _ = _; rw [hU, hV, mrg_split U1 V1 U2 V2 hle hlt2]; simp
        have HZ := Lib.hid hz1
        have HA := Lib.hid q2
        clear hU hV hle hlt2 q1 q2 q3 q4 HS SP UU UV HD hen hu1 hv1 hl
        have hcs : (0 < U1.length ∧ 0 < U2.length ∧ 0 < V1.length ∧ 0 < V2.length) ∨ (U1.length = 0 ∧ 0 < U2.length ∧ 0 < V1.length ∧ V2.length = 0) ∨ (0 < U1.length ∧ U2.length = 0 ∧ V1.length = 0 ∧ 0 < V2.length) ∨ (0 < U1.length ∧ 0 < U2.length ∧ V1.length = 0 ∧ 0 < V2.length) ∨ (0 < U1.length ∧ 0 < U2.length ∧ 0 < V1.length ∧ V2.length = 0) := by omega
        rcases hcs with ⟨c1, c2, c3, c4⟩ | ⟨c1, c2, c3, c4⟩ | ⟨c1, c2, c3, c4⟩ | ⟨c1, c2, c3, c4⟩ | ⟨c1, c2, c3, c4⟩
        · have g1 : (i : Int) < (m : Int) := by omega
          have g2 : (m : Int) < (en : Int) := by omega
          have g3 : (a : Int) < (i : Int) := by omega
          have g4 : (i : Int) < (mid : Int) := by omega
          have g5 : (mid : Int) < (en : Int) := by omega
          have g6 : (en : Int) < (b : Int) := by omega
          clear hz1
          have hr1 := HRO.out i m en d wr (X ++ U1) U2 V1 (V2 ++ Q) hh.out.symm HK.out (by rw [List.length_append, ← HA.out]; exact HZ.out.1) (by have := HZ.out; have := HA.out; simp only [List.length_append]; omega) (by have := HZ.out; have := HA.out; simp only [List.length_append]; omega) S1.out c2 c3
          clear S1 HK
          go_wp2_with (go_at_fn 62; refine hr1.mono ?_; clear hr1; rintro e w1 ⟨rfl, d1, hd1, l1, T1⟩)
          have K1 : Hid (d1.toList = X ++ U1 ++ V1 ++ (U2 ++ V2 ++ Q)) := by show _ = _; rw [l1]; simp
          have S1 : Aside (SWK enc k w0 blk off d1 w1) := T1
          clear T1 l1
          have hm1 := IH.out a i mid d1 w1 X U1 V1 (U2 ++ V2 ++ Q) hN1 hd1.symm K1.out HA.out (by have := HZ.out; have := HA.out; omega) (by have := HZ.out; have := HA.out; omega) c1 c3 UP.out.1 UP.out.2.2.1 S1.out
          clear S1 K1
          go_wp2_with (go_at_fn 61; refine hm1.mono ?_; clear hm1; rintro e w2 ⟨rfl, d2, hd2, l2, T2⟩)
          have K2 : Hid (d2.toList = (X ++ mrg (ltOf cf) U1 V1) ++ U2 ++ V2 ++ Q) := by show _ = _; rw [l2]; simp
          have S2 : Aside (SWK enc k w0 blk off d2 w2) := T2
          clear T2 l2
          have hm2 := IH.out mid en b d2 w2 (X ++ mrg (ltOf cf) U1 V1) U2 V2 Q hN2 hd2.symm K2.out (by have := HZ.out; have := HA.out; simp only [List.length_append, mrg_length]; simp at *; omega) (by have := HZ.out; have := HA.out; simp only [List.length_append, mrg_length]; simp at *; omega) (by have := HZ.out; have := HA.out; simp only [List.length_append, mrg_length]; simp at *; omega) c2 c4 UP.out.2.1 UP.out.2.2.2 S2.out
          clear S2 K2
          go_wp2_with (go_at_fn 61; refine hm2.mono ?_; clear hm2; rintro e w3 ⟨rfl, d3, hd3, l3, T3⟩)
          go_end0
          exact ⟨rfl, d3, hd3, by have e1 := HF.out; have e2 := l3; simp only [List.append_assoc, mrg_nil_left, mrg_nil_right, List.append_nil, List.nil_append] at e1 e2 ⊢; rw [e2, ← e1], T3⟩
        · have g1 : (i : Int) < (m : Int) := by omega
          have g2 : (m : Int) < (en : Int) := by omega
          have g3 : ¬ (a : Int) < (i : Int) := by omega
          have g3d : decide ((a : Int) < (i : Int)) = false := decide_eq_false g3
          have g4 : (i : Int) < (mid : Int) := by omega
          have g5 : (mid : Int) < (en : Int) := by omega
          have g6 : ¬ (en : Int) < (b : Int) := by omega
          have g6d : decide ((en : Int) < (b : Int)) = false := decide_eq_false g6
          clear hz1
          obtain rfl : U1 = [] := List.length_eq_zero_iff.1 c1
          obtain rfl : V2 = [] := List.length_eq_zero_iff.1 c4
          have hr1 := HRO.out i m en d wr (X ++ []) U2 V1 ([] ++ Q) hh.out.symm HK.out (by rw [List.length_append, ← HA.out]; exact HZ.out.1) (by have := HZ.out; have := HA.out; simp only [List.length_append]; omega) (by have := HZ.out; have := HA.out; simp only [List.length_append]; omega) S1.out c2 c3
          clear S1 HK
          go_wp2_with (go_at_fn 62; refine hr1.mono ?_; clear hr1; rintro e w1 ⟨rfl, d1, hd1, l1, T1⟩)
          have K1 : Hid (d1.toList = X ++ [] ++ V1 ++ (U2 ++ [] ++ Q)) := by show _ = _; rw [l1]; simp
          have S1 : Aside (SWK enc k w0 blk off d1 w1) := T1
          clear T1 l1
          have K2 : Hid (d1.toList = (X ++ mrg (ltOf cf) [] V1) ++ U2 ++ [] ++ Q) := by show _ = _; rw [K1.out]; simp
          have S2 : Aside (SWK enc k w0 blk off d1 w1) := S1.out
          clear K1 S1
          go_end0
          exact ⟨rfl, d1, hd1, by have e1 := HF.out; have e2 := K2.out; simp only [List.append_assoc, mrg_nil_left, mrg_nil_right, List.append_nil, List.nil_append] at e1 e2 ⊢; rw [e2, ← e1], S2.out⟩
        · have g1 : ¬ (i : Int) < (m : Int) := by omega
          have g1d : decide ((i : Int) < (m : Int)) = false := decide_eq_false g1
          have g2 : ¬ (m : Int) < (en : Int) := by omega
          have g2d : decide ((m : Int) < (en : Int)) = false := decide_eq_false g2
          have g3 : (a : Int) < (i : Int) := by omega
          have g4 : ¬ (i : Int) < (mid : Int) := by omega
          have g4d : decide ((i : Int) < (mid : Int)) = false := decide_eq_false g4
          have g5 : ¬ (mid : Int) < (en : Int) := by omega
          have g5d : decide ((mid : Int) < (en : Int)) = false := decide_eq_false g5
          have g6 : (en : Int) < (b : Int) := by omega
          clear hz1
          obtain rfl : U2 = [] := List.length_eq_zero_iff.1 c2
          obtain rfl : V1 = [] := List.length_eq_zero_iff.1 c3
          have K1 : Hid (d.toList = X ++ U1 ++ [] ++ ([] ++ V2 ++ Q)) := by show _ = _; rw [HK.out]; simp
          clear HK
          have K2 : Hid (d.toList = (X ++ mrg (ltOf cf) U1 []) ++ [] ++ V2 ++ Q) := by show _ = _; rw [K1.out]; simp
          have S2 : Aside (SWK enc k w0 blk off d wr) := S1.out
          clear K1 S1
          go_wp2
          go_end0
          exact ⟨rfl, d, hh.out, by have e1 := HF.out; have e2 := K2.out; simp only [List.append_assoc, mrg_nil_left, mrg_nil_right, List.append_nil, List.nil_append] at e1 e2 ⊢; rw [e2, ← e1], S2.out⟩
        · have g1 : (i : Int) < (m : Int) := by omega
          have g2 : ¬ (m : Int) < (en : Int) := by omega
          have g2d : decide ((m : Int) < (en : Int)) = false := decide_eq_false g2
          have g3 : (a : Int) < (i : Int) := by omega
          have g4 : ¬ (i : Int) < (mid : Int) := by omega
          have g4d : decide ((i : Int) < (mid : Int)) = false := decide_eq_false g4
          have g5 : (mid : Int) < (en : Int) := by omega
          have g6 : (en : Int) < (b : Int) := by omega
          clear hz1
          obtain rfl : V1 = [] := List.length_eq_zero_iff.1 c3
          have K1 : Hid (d.toList = X ++ U1 ++ [] ++ (U2 ++ V2 ++ Q)) := by show _ = _; rw [HK.out]; simp
          clear HK
          have K2 : Hid (d.toList = (X ++ mrg (ltOf cf) U1 []) ++ U2 ++ V2 ++ Q) := by show _ = _; rw [K1.out]; simp
          have S2 : Aside (SWK enc k w0 blk off d wr) := S1.out
          clear K1 S1
          have hm2 := IH.out mid en b d wr (X ++ mrg (ltOf cf) U1 []) U2 V2 Q hN2 hh.out.symm K2.out (by have := HZ.out; have := HA.out; simp only [List.length_append, mrg_length]; simp at *; omega) (by have := HZ.out; have := HA.out; simp only [List.length_append, mrg_length]; simp at *; omega) (by have := HZ.out; have := HA.out; simp only [List.length_append, mrg_length]; simp at *; omega) c2 c4 UP.out.2.1 UP.out.2.2.2 S2.out
          clear S2 K2
          go_wp2_with (go_at_fn 61; refine hm2.mono ?_; clear hm2; rintro e w3 ⟨rfl, d3, hd3, l3, T3⟩)
          go_end0
          exact ⟨rfl, d3, hd3, by have e1 := HF.out; have e2 := l3; simp only [List.append_assoc, mrg_nil_left, mrg_nil_right, List.append_nil, List.nil_append] at e1 e2 ⊢; rw [e2, ← e1], T3⟩
        · have g1 : (i : Int) < (m : Int) := by omega
          have g2 : (m : Int) < (en : Int) := by omega
          have g3 : (a : Int) < (i : Int) := by omega
          have g4 : (i : Int) < (mid : Int) := by omega
          have g5 : (mid : Int) < (en : Int) := by omega
          have g6 : ¬ (en : Int) < (b : Int) := by omega
          have g6d : decide ((en : Int) < (b : Int)) = false := decide_eq_false g6
          clear hz1
          obtain rfl : V2 = [] := List.length_eq_zero_iff.1 c4
          have hr1 := HRO.out i m en d wr (X ++ U1) U2 V1 ([] ++ Q) hh.out.symm HK.out (by rw [List.length_append, ← HA.out]; exact HZ.out.1) (by have := HZ.out; have := HA.out; simp only [List.length_append]; omega) (by have := HZ.out; have := HA.out; simp only [List.length_append]; omega) S1.out c2 c3
          clear S1 HK
          go_wp2_with (go_at_fn 62; refine hr1.mono ?_; clear hr1; rintro e w1 ⟨rfl, d1, hd1, l1, T1⟩)
          have K1 : Hid (d1.toList = X ++ U1 ++ V1 ++ (U2 ++ [] ++ Q)) := by show _ = _; rw [l1]; simp
          have S1 : Aside (SWK enc k w0 blk off d1 w1) := T1
          clear T1 l1
          have hm1 := IH.out a i mid d1 w1 X U1 V1 (U2 ++ [] ++ Q) hN1 hd1.symm K1.out HA.out (by have := HZ.out; have := HA.out; omega) (by have := HZ.out; have := HA.out; omega) c1 c3 UP.out.1 UP.out.2.2.1 S1.out
          clear S1 K1
          go_wp2_with (go_at_fn 61; refine hm1.mono ?_; clear hm1; rintro e w2 ⟨rfl, d2, hd2, l2, T2⟩)
          have K2 : Hid (d2.toList = (X ++ mrg (ltOf cf) U1 V1) ++ U2 ++ [] ++ Q) := by show _ = _; rw [l2]; simp
          have S2 : Aside (SWK enc k w0 blk off d2 w2) := T2
          clear T2 l2
          go_end0
          exact ⟨rfl, d2, hd2, by have e1 := HF.out; have e2 := K2.out; simp only [List.append_assoc, mrg_nil_left, mrg_nil_right, List.append_nil, List.nil_append] at e1 e2 ⊢; rw [e2, ← e1], S2.out⟩
  · have hdm : ¬ (mid : Int) < (m : Int) := by omega
    have SP := Lib.hid (SPL.out a m (.inr ⟨hlt0, rfl, rfl⟩))
    clear SPL
    go_enter FG, Try.ntmps61
    go_wp2
    go_loopw [20, 21] (fun iv jv wr => ∃ (i j : Nat), iv = .int .i64 i ∧ jv = .int .i64 j ∧ a ≤ i ∧ i ≤ j ∧ j ≤ m ∧ Hid (Srch (fun c => ltOf cf d[mid + m - 1 - c]! d[c]!) a m i j) ∧ Aside (SWK enc k w0 blk off d wr))
      (fun iv jv _ => (RowKit.intOf jv).toNat - (RowKit.intOf iv).toNat)
    case atStart => exact ⟨a, m, rfl, rfl, Nat.le_refl _, by omega, Nat.le_refl _, Srch.start (by omega), S0⟩
    case round =>
      clear S0
      obtain ⟨i, j, rfl, rfl, hmi, hij, hjb, HS, S1⟩ := hrel
      by_cases hlt : i < j
      · obtain ⟨c, hc2⟩ : ∃ c, c = (i + j) / 2 := ⟨_, rfl⟩
        have eh : ((i : Int) + (j : Int)) / 2 = (c : Int) := by omega
        have h1 : i ≤ c := by omega
        have h2 : c < j := by omega
        clear hc2
        obtain ⟨q, hq⟩ : ∃ q, q = pp - c := ⟨_, rfl⟩
        have eq : (pp : Int) - (c : Int) = (q : Int) := by omega
        have ba : (c : Int) < (d0.size : Int) := by omega
        have bc : (q : Int) < (d0.size : Int) := by omega
        have rq : IntKind.i64.wrap ((pp : Int) - (c : Int)) = (pp : Int) - (c : Int) := by rw [IntKind.wrap_i64]; omega
        have rq2 : IntKind.i64.wrap (q : Int) = (q : Int) := by rw [IntKind.wrap_i64]; omega
        obtain ⟨x, hx⟩ : ∃ x, x = d[c]! := ⟨_, rfl⟩
        obtain ⟨y, hy⟩ : ∃ y, y = d[q]! := ⟨_, rfl⟩
        have la := S1.out.ld R hh.out P q (by rw [hh.out]; omega)
        have lb := S1.out.ld R hh.out P c (by rw [hh.out]; omega)
        rw [← hx] at lb
        rw [← hy] at la
        have hc := S1.out.cmp HC.out hh.out y x
        have HY : Hid (ltOf cf d[mid + m - 1 - c]! d[c]! = decide (cf y x < 0)) := by
          show _ = _
          rw [← HPP.out, ← hq, ← hx, ← hy]; rfl
        clear hx hy hq
        by_cases hv : cf y x < 0
        · have hd : decide (cf y x < 0) = true := decide_eq_true hv
          have HS2 : Hid (Srch (fun c => ltOf cf d[mid + m - 1 - c]! d[c]!) a m i c) := HS.out.right SP.out.1 h1 h2 (by rw [HY.out, hd])
          clear HS
          go_wp2_with fail
          go_quiet_grown (first | (go_at_fn g; refine Calls.grown_of (hc _ _)))
          have S2 : Aside (SWK enc k w0 blk off d (grow (wr.drewN nq) osq)) := S1.out.grown nq osq
          clear la lb hc S1
          generalize grow (wr.drewN nq) osq = w2 at S2 ⊢
          clear nq osq
          go_wp2_with fail
          go_roundw
          case rel => exact ⟨i, c, rfl, rfl, hmi, h1, by omega, HS2, S2⟩
          case measure => simp [RowKit.intOf]; omega
        · have hd : decide (cf y x < 0) = false := decide_eq_false hv
          have HS2 : Hid (Srch (fun c => ltOf cf d[mid + m - 1 - c]! d[c]!) a m (c + 1) j) := HS.out.left SP.out.1 h1 h2 (by rw [HY.out, hd])
          clear HS
          go_wp2_with fail
          go_quiet_grown (first | (go_at_fn g; refine Calls.grown_of (hc _ _)))
          have S2 : Aside (SWK enc k w0 blk off d (grow (wr.drewN nq) osq)) := S1.out.grown nq osq
          clear la lb hc S1
          generalize grow (wr.drewN nq) osq = w2 at S2 ⊢
          clear nq osq
          go_wp2_with fail
          go_roundw
          case rel => exact ⟨c + 1, j, by go_num, rfl, by omega, by omega, hjb, HS2, S2⟩
          case measure => simp [RowKit.intOf]; omega
      · obtain rfl : i = j := by omega
        obtain ⟨U1, U2, V1, V2, hU, hV, hu1, hv1, hle, hlt2⟩ := SP.out.2 i HS.out
        have hl : U.length = U1.length + U2.length ∧ V.length = V1.length + V2.length := by rw [hU, hV]; simp
        obtain ⟨q1, q2, q3, q4⟩ := HD.out
        obtain ⟨en, hen⟩ : ∃ en, en = mid + m - i := ⟨_, rfl⟩
        have een : (mid : Int) + (m : Int) - (i : Int) = (en : Int) := by omega
        have hz1 : i = a + U1.length ∧ mid = i + V1.length ∧ m = i + U2.length ∧ en = m + V1.length ∧ en = mid + U2.length ∧ b = en + V2.length := by omega
        have UP := Lib.hid (show Up (ltOf cf) U1 ∧ Up (ltOf cf) U2 ∧ Up (ltOf cf) V1 ∧ Up (ltOf cf) V2 from by
          have e1 := UU.out; have e2 := UV.out
          rw [hU] at e1; rw [hV] at e2
          exact ⟨(List.pairwise_append.1 e1).1, (List.pairwise_append.1 e1).2.1, (List.pairwise_append.1 e2).1, (List.pairwise_append.1 e2).2.1⟩)
        have HK : Hid (d.toList = X ++ U1 ++ U2 ++ V1 ++ (V2 ++ Q)) := by show _ = _; rw [q1, hU, hV]; simp
        have HF : Hid (X ++ mrg (ltOf cf) U1 V1 ++ mrg (ltOf cf) U2 V2 ++ Q = X ++ mrg (ltOf cf) U V ++ Q) := by show _ = _; rw [hU, hV, mrg_split U1 V1 U2 V2 hle hlt2]; simp
        have HZ := Lib.hid hz1
        have HA := Lib.hid q2
        clear hU hV hle hlt2 q1 q2 q3 q4 HS SP UU UV HD hen hu1 hv1 hl
        have hcs : (0 < U1.length ∧ 0 < U2.length ∧ 0 < V1.length ∧ 0 < V2.length) ∨ (U1.length = 0 ∧ 0 < U2.length ∧ 0 < V1.length ∧ 0 < V2.length) ∨ (U1.length = 0 ∧ 0 < U2.length ∧ 0 < V1.length ∧ V2.length = 0) ∨ (0 < U1.length ∧ U2.length = 0 ∧ 0 < V1.length ∧ 0 < V2.length) ∨ (0 < U1.length ∧ U2.length = 0 ∧ V1.length = 0 ∧ 0 < V2.length) ∨ (0 < U1.length ∧ 0 < U2.length ∧ V1.length = 0 ∧ 0 < V2.length) := by omega
        rcases hcs with ⟨c1, c2, c3, c4⟩ | ⟨c1, c2, c3, c4⟩ | ⟨c1, c2, c3, c4⟩ | ⟨c1, c2, c3, c4⟩ | ⟨c1, c2, c3, c4⟩ | ⟨c1, c2, c3, c4⟩
        · have g1 : (i : Int) < (m : Int) := by omega
          have g2 : (m : Int) < (en : Int) := by omega
          have g3 : (a : Int) < (i : Int) := by omega
          have g4 : (i : Int) < (mid : Int) := by omega
          have g5 : (mid : Int) < (en : Int) := by omega
          have g6 : (en : Int) < (b : Int) := by omega
          clear hz1
          have hr1 := HRO.out i m en d wr (X ++ U1) U2 V1 (V2 ++ Q) hh.out.symm HK.out (by rw [List.length_append, ← HA.out]; exact HZ.out.1) (by have := HZ.out; have := HA.out; simp only [List.length_append]; omega) (by have := HZ.out; have := HA.out; simp only [List.length_append]; omega) S1.out c2 c3
          clear S1 HK
          go_wp2_with (go_at_fn 62; refine hr1.mono ?_; clear hr1; rintro e w1 ⟨rfl, d1, hd1, l1, T1⟩)
          have K1 : Hid (d1.toList = X ++ U1 ++ V1 ++ (U2 ++ V2 ++ Q)) := by show _ = _; rw [l1]; simp
          have S1 : Aside (SWK enc k w0 blk off d1 w1) := T1
          clear T1 l1
          have hm1 := IH.out a i mid d1 w1 X U1 V1 (U2 ++ V2 ++ Q) hN1 hd1.symm K1.out HA.out (by have := HZ.out; have := HA.out; omega) (by have := HZ.out; have := HA.out; omega) c1 c3 UP.out.1 UP.out.2.2.1 S1.out
          clear S1 K1
          go_wp2_with (go_at_fn 61; refine hm1.mono ?_; clear hm1; rintro e w2 ⟨rfl, d2, hd2, l2, T2⟩)
          have K2 : Hid (d2.toList = (X ++ mrg (ltOf cf) U1 V1) ++ U2 ++ V2 ++ Q) := by show _ = _; rw [l2]; simp
          have S2 : Aside (SWK enc k w0 blk off d2 w2) := T2
          clear T2 l2
          have hm2 := IH.out mid en b d2 w2 (X ++ mrg (ltOf cf) U1 V1) U2 V2 Q hN2 hd2.symm K2.out (by have := HZ.out; have := HA.out; simp only [List.length_append, mrg_length]; simp at *; omega) (by have := HZ.out; have := HA.out; simp only [List.length_append, mrg_length]; simp at *; omega) (by have := HZ.out; have := HA.out; simp only [List.length_append, mrg_length]; simp at *; omega) c2 c4 UP.out.2.1 UP.out.2.2.2 S2.out
          clear S2 K2
          go_wp2_with (go_at_fn 61; refine hm2.mono ?_; clear hm2; rintro e w3 ⟨rfl, d3, hd3, l3, T3⟩)
          go_end0
          exact ⟨rfl, d3, hd3, by have e1 := HF.out; have e2 := l3; simp only [List.append_assoc, mrg_nil_left, mrg_nil_right, List.append_nil, List.nil_append] at e1 e2 ⊢; rw [e2, ← e1], T3⟩
        · have g1 : (i : Int) < (m : Int) := by omega
          have g2 : (m : Int) < (en : Int) := by omega
          have g3 : ¬ (a : Int) < (i : Int) := by omega
          have g3d : decide ((a : Int) < (i : Int)) = false := decide_eq_false g3
          have g4 : (i : Int) < (mid : Int) := by omega
          have g5 : (mid : Int) < (en : Int) := by omega
          have g6 : (en : Int) < (b : Int) := by omega
          clear hz1
          obtain rfl : U1 = [] := List.length_eq_zero_iff.1 c1
          have hr1 := HRO.out i m en d wr (X ++ []) U2 V1 (V2 ++ Q) hh.out.symm HK.out (by rw [List.length_append, ← HA.out]; exact HZ.out.1) (by have := HZ.out; have := HA.out; simp only [List.length_append]; omega) (by have := HZ.out; have := HA.out; simp only [List.length_append]; omega) S1.out c2 c3
          clear S1 HK
          go_wp2_with (go_at_fn 62; refine hr1.mono ?_; clear hr1; rintro e w1 ⟨rfl, d1, hd1, l1, T1⟩)
          have K1 : Hid (d1.toList = X ++ [] ++ V1 ++ (U2 ++ V2 ++ Q)) := by show _ = _; rw [l1]; simp
          have S1 : Aside (SWK enc k w0 blk off d1 w1) := T1
          clear T1 l1
          have K2 : Hid (d1.toList = (X ++ mrg (ltOf cf) [] V1) ++ U2 ++ V2 ++ Q) := by show _ = _; rw [K1.out]; simp
          have S2 : Aside (SWK enc k w0 blk off d1 w1) := S1.out
          clear K1 S1
          have hm2 := IH.out mid en b d1 w1 (X ++ mrg (ltOf cf) [] V1) U2 V2 Q hN2 hd1.symm K2.out (by have := HZ.out; have := HA.out; simp only [List.length_append, mrg_length]; simp at *; omega) (by have := HZ.out; have := HA.out; simp only [List.length_append, mrg_length]; simp at *; omega) (by have := HZ.out; have := HA.out; simp only [List.length_append, mrg_length]; simp at *; omega) c2 c4 UP.out.2.1 UP.out.2.2.2 S2.out
          clear S2 K2
          go_wp2_with (go_at_fn 61; refine hm2.mono ?_; clear hm2; rintro e w3 ⟨rfl, d3, hd3, l3, T3⟩)
          go_end0
          exact ⟨rfl, d3, hd3, by have e1 := HF.out; have e2 := l3; simp only [List.append_assoc, mrg_nil_left, mrg_nil_right, List.append_nil, List.nil_append] at e1 e2 ⊢; rw [e2, ← e1], T3⟩
        · have g1 : (i : Int) < (m : Int) := by omega
          have g2 : (m : Int) < (en : Int) := by omega
          have g3 : ¬ (a : Int) < (i : Int) := by omega
          have g3d : decide ((a : Int) < (i : Int)) = false := decide_eq_false g3
          have g4 : (i : Int) < (mid : Int) := by omega
          have g5 : (mid : Int) < (en : Int) := by omega
          have g6 : ¬ (en : Int) < (b : Int) := by omega
          have g6d : decide ((en : Int) < (b : Int)) = false := decide_eq_false g6
          clear hz1
          obtain rfl : U1 = [] := List.length_eq_zero_iff.1 c1
          obtain rfl : V2 = [] := List.length_eq_zero_iff.1 c4
          have hr1 := HRO.out i m en d wr (X ++ []) U2 V1 ([] ++ Q) hh.out.symm HK.out (by rw [List.length_append, ← HA.out]; exact HZ.out.1) (by have := HZ.out; have := HA.out; simp only [List.length_append]; omega) (by have := HZ.out; have := HA.out; simp only [List.length_append]; omega) S1.out c2 c3
          clear S1 HK
          go_wp2_with (go_at_fn 62; refine hr1.mono ?_; clear hr1; rintro e w1 ⟨rfl, d1, hd1, l1, T1⟩)
          have K1 : Hid (d1.toList = X ++ [] ++ V1 ++ (U2 ++ [] ++ Q)) := by show _ = _; rw [l1]; simp
          have S1 : Aside (SWK enc k w0 blk off d1 w1) := T1
          clear T1 l1
          have K2 : Hid (d1.toList = (X ++ mrg (ltOf cf) [] V1) ++ U2 ++ [] ++ Q) := by show _ = _; rw [K1.out]; simp
          have S2 : Aside (SWK enc k w0 blk off d1 w1) := S1.out
          clear K1 S1
          go_end0
          exact ⟨rfl, d1, hd1, by have e1 := HF.out; have e2 := K2.out; simp only [List.append_assoc, mrg_nil_left, mrg_nil_right, List.append_nil, List.nil_append] at e1 e2 ⊢; rw [e2, ← e1], S2.out⟩
        · have g1 : ¬ (i : Int) < (m : Int) := by omega
          have g1d : decide ((i : Int) < (m : Int)) = false := decide_eq_false g1
          have g2 : (m : Int) < (en : Int) := by omega
          have g3 : (a : Int) < (i : Int) := by omega
          have g4 : (i : Int) < (mid : Int) := by omega
          have g5 : ¬ (mid : Int) < (en : Int) := by omega
          have g5d : decide ((mid : Int) < (en : Int)) = false := decide_eq_false g5
          have g6 : (en : Int) < (b : Int) := by omega
          clear hz1
          obtain rfl : U2 = [] := List.length_eq_zero_iff.1 c2
          have K1 : Hid (d.toList = X ++ U1 ++ V1 ++ ([] ++ V2 ++ Q)) := by show _ = _; rw [HK.out]; simp
          clear HK
          have hm1 := IH.out a i mid d wr X U1 V1 ([] ++ V2 ++ Q) hN1 hh.out.symm K1.out HA.out (by have := HZ.out; have := HA.out; omega) (by have := HZ.out; have := HA.out; omega) c1 c3 UP.out.1 UP.out.2.2.1 S1.out
          clear S1 K1
          go_wp2_with (go_at_fn 61; refine hm1.mono ?_; clear hm1; rintro e w2 ⟨rfl, d2, hd2, l2, T2⟩)
          have K2 : Hid (d2.toList = (X ++ mrg (ltOf cf) U1 V1) ++ [] ++ V2 ++ Q) := by show _ = _; rw [l2]; simp
          have S2 : Aside (SWK enc k w0 blk off d2 w2) := T2
          clear T2 l2
          go_end0
          exact ⟨rfl, d2, hd2, by have e1 := HF.out; have e2 := K2.out; simp only [List.append_assoc, mrg_nil_left, mrg_nil_right, List.append_nil, List.nil_append] at e1 e2 ⊢; rw [e2, ← e1], S2.out⟩
        · have g1 : ¬ (i : Int) < (m : Int) := by omega
          have g1d : decide ((i : Int) < (m : Int)) = false := decide_eq_false g1
          have g2 : ¬ (m : Int) < (en : Int) := by omega
          have g2d : decide ((m : Int) < (en : Int)) = false := decide_eq_false g2
          have g3 : (a : Int) < (i : Int) := by omega
          have g4 : ¬ (i : Int) < (mid : Int) := by omega
          have g4d : decide ((i : Int) < (mid : Int)) = false := decide_eq_false g4
          have g5 : ¬ (mid : Int) < (en : Int) := by omega
          have g5d : decide ((mid : Int) < (en : Int)) = false := decide_eq_false g5
          have g6 : (en : Int) < (b : Int) := by omega
          clear hz1
          obtain rfl : U2 = [] := List.length_eq_zero_iff.1 c2
          obtain rfl : V1 = [] := List.length_eq_zero_iff.1 c3
          have K1 : Hid (d.toList = X ++ U1 ++ [] ++ ([] ++ V2 ++ Q)) := by show _ = _; rw [HK.out]; simp
          clear HK
          have K2 : Hid (d.toList = (X ++ mrg (ltOf cf) U1 []) ++ [] ++ V2 ++ Q) := by show _ = _; rw [K1.out]; simp
          have S2 : Aside (SWK enc k w0 blk off d wr) := S1.out
          clear K1 S1
          go_wp2
          go_end0
          exact ⟨rfl, d, hh.out, by have e1 := HF.out; have e2 := K2.out; simp only [List.append_assoc, mrg_nil_left, mrg_nil_right, List.append_nil, List.nil_append] at e1 e2 ⊢; rw [e2, ← e1], S2.out⟩
        · have g1 : (i : Int) < (m : Int) := by omega
          have g2 : ¬ (m : Int) < (en : Int) := by omega
          have g2d : decide ((m : Int) < (en : Int)) = false := decide_eq_false g2
          have g3 : (a : Int) < (i : Int) := by omega
          have g4 : ¬ (i : Int) < (mid : Int) := by omega
          have g4d : decide ((i : Int) < (mid : Int)) = false := decide_eq_false g4
          have g5 : (mid : Int) < (en : Int) := by omega
          have g6 : (en : Int) < (b : Int) := by omega
          clear hz1
          obtain rfl : V1 = [] := List.length_eq_zero_iff.1 c3
          have K1 : Hid (d.toList = X ++ U1 ++ [] ++ (U2 ++ V2 ++ Q)) := by show _ = _; rw [HK.out]; simp
          clear HK
          have K2 : Hid (d.toList = (X ++ mrg (ltOf cf) U1 []) ++ U2 ++ V2 ++ Q) := by show _ = _; rw [K1.out]; simp
          have S2 : Aside (SWK enc k w0 blk off d wr) := S1.out
          clear K1 S1
          have hm2 := IH.out mid en b d wr (X ++ mrg (ltOf cf) U1 []) U2 V2 Q hN2 hh.out.symm K2.out (by have := HZ.out; have := HA.out; simp only [List.length_append, mrg_length]; simp at *; omega) (by have := HZ.out; have := HA.out; simp only [List.length_append, mrg_length]; simp at *; omega) (by have := HZ.out; have := HA.out; simp only [List.length_append, mrg_length]; simp at *; omega) c2 c4 UP.out.2.1 UP.out.2.2.2 S2.out
          clear S2 K2
          go_wp2_with (go_at_fn 61; refine hm2.mono ?_; clear hm2; rintro e w3 ⟨rfl, d3, hd3, l3, T3⟩)
          go_end0
          exact ⟨rfl, d3, hd3, by have e1 := HF.out; have e2 := l3; simp only [List.append_assoc, mrg_nil_left, mrg_nil_right, List.append_nil, List.nil_append] at e1 e2 ⊢; rw [e2, ← e1], T3⟩

theorem symMerge_any {k : Nat} (L : SortLays P k) (enc : α → List Value) (cf : α → α → Int) (SO : SWO (ltOf cf)) (g : Nat) (cb : Array Value) (blk off cap : Nat) (d0 : Array α) (w0 : World) (R : RowK enc k w0 blk off d0) (hsz : d0.size < 4611686018427387904)
    (eg : ∀ args w, (callFunc g args).run P w = .ok (.enter g args) w) (hcmp : CmpLays P g cb enc k cf blk off d0.size w0) : ∀ N : Nat, SymM P enc k (ltOf cf) blk off cap g cb d0 w0 N
  | 0 => fun a m b d w X U V Q hN _ _ ha _ hb hu hv _ _ _ => by omega
  | N + 1 => fun a m b d w X U V Q hN hs h ha hm hb hu hv uU uV S => by
    by_cases h1 : U.length = 1
    · obtain ⟨x, rfl⟩ := List.length_eq_one_iff.1 h1
      exact symMerge_left L enc cf SO g cb blk off cap a m b d0 d w0 w R hs hsz eg hcmp X V Q x h ha hm hb uV S hv
    · by_cases h2 : V.length = 1
      · obtain ⟨y, rfl⟩ := List.length_eq_one_iff.1 h2
        exact symMerge_right L enc cf SO g cb blk off cap a m b d0 d w0 w R hs hsz eg hcmp X U Q y h ha hm hb uU S (by omega)
      · exact symMerge_many L enc cf SO g cb blk off cap d0 w0 R hsz eg hcmp N (symMerge_any L enc cf SO g cb blk off cap d0 w0 R hsz eg hcmp N) a m b d w X U V Q hN hs h ha hm hb (by omega) (by omega) uU uV S
end Go.Proofs.Ytkhpoeolnhfflaa
