/-
  slices.stableCmpFunc over any program that bears it: the row in order, equal ones as they stood. Conditions: the row holds the elements; 'cmp' is answered.
-/
import Derived.Test.YtkhpoeolnhfflaaSortS
set_option linter.unusedSimpArgs false
set_option linter.unusedVariables false
namespace Go.Proofs.Ytkhpoeolnhfflaa
open Go.Shelf Go.RowKit Go.Lib Go.Sort
variable {P : Program} {α : Type} [Inhabited α]

/-- Where the insertion sort's body lies. -/
def renI : Ren := ⟨fun n => if n = 20 then 60 else n, fun t => if t = 24 then 50 else if t = 22 then 30 else if t = 25 then 69 else if t = 3 then 3 else if t = 4 then 4 else 0, fun n => n⟩

theorem laysI : SlLaysF0.n20 Try.prog renI where
  mixed := rfl
  f20 := ⟨_, rfl, Try.func60⟩
  t0 := rfl
  a0 := fun _ => rfl
  z0 := fun _ => rfl
  v0 := fun _ => rfl
  t3 := rfl
  a3 := fun _ => rfl
  z3 := fun _ => rfl
  v3 := fun _ => rfl
  t4 := rfl
  a4 := fun _ => rfl
  z4 := fun _ => rfl
  v4 := fun _ => rfl
  t22 := rfl
  a22 := fun _ => rfl
  z22 := fun _ => rfl
  v22 := fun _ => rfl
  t25 := rfl
  a25 := fun _ => rfl
  z25 := fun _ => rfl
  v25 := fun _ => rfl

theorem insSort_any (enc : α → List Value) (k : Nat) (zE : ∀ w, (Go.sizeOf 50).run Try.prog w = .ok k w) (cf : α → α → Int) (g : Nat) (cb : Array Value) (blk off cap : Nat) (d0 : Array α) (w0 : World)
    (eg : ∀ args w, (callFunc g args).run Try.prog w = .ok (.enter g args) w) (hcmp : CmpLays Try.prog g cb enc k cf blk off d0.size w0) (R : RowK enc k w0 blk off d0) (hO : SWO (ltOf cf)) (hsz : d0.size ≤ 1000000)
    (a b : Nat) (d : Array α) (w : World) (X U Q : List α) (hs : d0.size = d.size) (S : SWK enc k w0 blk off d w) (h : d.toList = X ++ U ++ Q) (ha : a = X.length) (hb : b = X.length + U.length) :
    Calls Try.prog 60 #[.slice (some ⟨blk, off, none⟩) d0.size cap, .int .i64 a, .int .i64 b, .func (.func g) #[] cb] w fun e w' => e = .returned (.tuple #[]) ∧ ∃ d' : Array α, d'.size = d0.size ∧ d'.toList = X ++ ss (ltOf cf) U ++ Q ∧ SWK enc k w0 blk off d' w' := by
  have hsd : d.size = X.length + U.length + Q.length := by rw [← Array.length_toList, h]; simp; omega
  have hs' : (Sort.insertionSort (ltOf cf) d a b).size = d.size := (insertionSort_holds hO d a b (by omega) (by omega)).1.1
  have hC : CmpLays Try.prog g cb enc k cf blk off d.size w := fun m os dk hdk x y => by
    obtain ⟨n0, os0, rfl⟩ := S
    rw [sortWorldK_on enc k w0 blk off n0 m d dk os0 os R.hblk hdk]
    exact hcmp _ _ dk (by omega) x y
  have := (AnyQ.insertionSortCmpFunc laysI k (fun _ => rfl) zE enc R.hk R.h1 cf g cb blk off cap a b d w eg hC (S.holds R.hblk R.hH hs.symm) (S.lt R.hblk) (by omega) (by omega) (by omega))
  rw [← hs] at this
  refine this.mono ?_
  rintro e w' ⟨rfl, n, os, rfl⟩
  exact ⟨rfl, _, by rw [hs', hs], insertionSort_lists hO d X U Q a b h ha hb, S.on R.hblk n _ os hs'⟩

set_option maxHeartbeats 16000000 in
set_option maxRecDepth 1000000 in
theorem stable_any (enc : α → List Value) (k : Nat) (L : SortLays Try.prog k) (cf : α → α → Int) (g : Nat) (cb : Array Value) (blk off cap : Nat) (d0 : Array α) (w0 : World)
    (eg : ∀ args w, (callFunc g args).run Try.prog w = .ok (.enter g args) w) (hcmp : CmpLays Try.prog g cb enc k cf blk off d0.size w0) (R : RowK enc k w0 blk off d0) (hO : SWO (ltOf cf)) (hsz : d0.size ≤ 1000000)
    (d : Array α) (w : World) (hs : d0.size = d.size) (S : SWK enc k w0 blk off d w) :
    Calls Try.prog 59 #[.slice (some ⟨blk, off, none⟩) d0.size cap, .int .i64 d0.size, .func (.func g) #[] cb] w fun e w' => e = .returned (.tuple #[]) ∧ ∃ d' : Array α, d'.size = d0.size ∧ d'.toList = ss (ltOf cf) d.toList ∧ SWK enc k w0 blk off d' w' := by
  have HI := Lib.hid (fun a b d w X U Q hs S h ha hb => insSort_any enc k L.zE cf g cb blk off cap d0 w0 eg hcmp R hO hsz a b d w X U Q hs S h ha hb)
  have HM := Lib.hid (fun a m b d w X U V Q h1 h2 h3 h4 h5 h6 h7 h8 h9 h10 h11 => symMerge_any L enc cf hO g cb blk off cap d0 w0 R (by omega) eg hcmp b a m b d w X U V Q h1 h2 h3 h4 h5 h6 h7 h8 h9 h10 h11)
  obtain ⟨L0, hL0⟩ : ∃ L0, L0 = d.toList := ⟨_, rfl⟩
  have hn0 : L0.length = d0.size := by rw [hL0, Array.length_toList, hs]
  have S0 : Aside (SWK enc k w0 blk off d w) := S
  have hh := Lib.hid hs.symm
  have HL := Lib.hid hL0
  have HN := Lib.hid hn0
  have SO := Lib.hid hO
  rw [← hL0]
  generalize hlt : ltOf cf = lt at *
  clear hs hL0 hn0 S hcmp hO L
  go_enter Try.func59, Try.ntmps59
  go_wp2
  go_loopw [7, 8] (fun av bv wr => ∃ (a b : Nat) (dk : Array α), av = .int .i64 a ∧ bv = .int .i64 b ∧ Hid (b = a + 20) ∧ a ≤ d0.size ∧ Hid (dk.size = d0.size) ∧ Hid (∃ A : List α, A.length = a ∧ dk.toList = A ++ L0.drop a ∧ A ++ cs lt 20 (L0.drop a) = cs lt 20 L0) ∧ Aside (SWK enc k w0 blk off dk wr)) (fun av _ _ => d0.size - (RowKit.intOf av).toNat)
  case atStart => exact ⟨0, 20, d, rfl, rfl, rfl, Nat.zero_le _, hh, ⟨[], rfl, by rw [HL.out]; rfl, rfl⟩, S0⟩
  case round =>
    clear S0
    obtain ⟨a, b, dk, rfl, rfl, HAB, han, hds, HK, S1⟩ := hrel
    have hab := HAB.out
    by_cases hlt2 : b ≤ d0.size
    · obtain ⟨A, hA, hdk, hcs⟩ := HK.out
      have hl1 : ((L0.drop a).take 20).length = 20 := by simp; have := HN.out; omega
      have hc := HI.out a b dk wr A ((L0.drop a).take 20) (L0.drop b) hds.out.symm S1.out (by rw [hdk, hab, List.append_assoc, ← List.drop_drop, List.take_append_drop]) hA.symm (by rw [hl1, hA]; exact hab)
      have hc' : (b : Int) ≤ (d0.size : Int) := by omega
      have hK2 : Hid (∃ A : List α, A.length = b ∧ A ++ cs lt 20 (L0.drop b) = cs lt 20 L0 ∧ A ++ L0.drop b = A ++ L0.drop b) := ⟨A ++ ss lt ((L0.drop a).take 20), by rw [List.length_append, ss_length, hl1, hA, hab], by rw [← hcs, cs_step lt 20 (by omega) (L0.drop a), hab, List.append_assoc, List.drop_drop], rfl⟩
      have hK3 : Hid (∀ d1 : Array α, d1.toList = A ++ ss lt ((L0.drop a).take 20) ++ L0.drop b → ∃ A : List α, A.length = b ∧ d1.toList = A ++ L0.drop b ∧ A ++ cs lt 20 (L0.drop b) = cs lt 20 L0) := fun d1 h1 => ⟨A ++ ss lt ((L0.drop a).take 20), by rw [List.length_append, ss_length, hl1, hA, hab], h1, by rw [← hcs, cs_step lt 20 (by omega) (L0.drop a), hab, List.append_assoc, List.drop_drop]⟩
      clear hA hdk hcs HK S1 hK2 hl1 hab
      go_wp2_with fail
      refine hc.mono ?_
      clear hc
      rintro e w1 ⟨rfl, d1, hd1, l1, T1⟩
      have S1 : Aside (SWK enc k w0 blk off d1 w1) := T1
      have hd1' := Lib.hid hd1
      have HK1 : Hid (∃ A : List α, A.length = b ∧ d1.toList = A ++ L0.drop b ∧ A ++ cs lt 20 (L0.drop b) = cs lt 20 L0) := hK3.out d1 l1
      clear T1 l1 hK3 hd1
      go_wp2_with fail
      go_roundw
      case rel => exact ⟨b, b + 20, d1, rfl, by go_num, rfl, hlt2, hd1', HK1, S1⟩
      case measure => (try have hab := HAB.out); simp [RowKit.intOf]; omega
    · obtain ⟨A, hA, hdk, hcs⟩ := HK.out
      have hl1 : (L0.drop a).length = d0.size - a := by simp; have := HN.out; omega
      have hc := HI.out a d0.size dk wr A (L0.drop a) [] hds.out.symm S1.out (by rw [hdk]; simp) hA.symm (by rw [hl1, hA]; omega)
      have hc' : ¬ (b : Int) ≤ (d0.size : Int) := by omega
      have hK3 : Hid (∀ d1 : Array α, d1.toList = A ++ ss lt (L0.drop a) ++ [] → d1.toList = cs lt 20 L0) := fun d1 h1 => by rw [h1, ← hcs, cs_small lt 20 (by omega) _ (by omega)]; simp
      clear hA hdk hcs HK S1 hl1 hab
      go_wp2_with fail
      refine hc.mono ?_
      clear hc
      rintro e w1 ⟨rfl, d1, hd1, l1, T1⟩
      have S1 : Aside (SWK enc k w0 blk off d1 w1) := T1
      have hd1' := Lib.hid hd1
      have HK1 : Hid (d1.toList = cs lt 20 L0) := hK3.out d1 l1
      clear T1 l1 hK3 hd1
      go_wp2_with fail
      go_loopw [6, 7, 8, 9] (fun sv _ _ _ wr => ∃ (s : Nat) (dk : Array α), sv = .int .i64 s ∧ 20 ≤ s ∧ s ≤ 2000000 ∧ Hid (dk.size = d0.size) ∧ Hid (dk.toList = cs lt s L0) ∧ Aside (SWK enc k w0 blk off dk wr)) (fun sv _ _ _ _ => d0.size - (RowKit.intOf sv).toNat)
      case atStart => exact ⟨20, d1, rfl, Nat.le_refl _, by omega, hd1', HK1, S1⟩
      case round =>
        clear S1 HK1 hd1' hds
        obtain ⟨s, ds, rfl, hs20, hsb, hds, HK, S1⟩ := hrel
        by_cases hsn : s < d0.size
        · obtain ⟨s2, hs2⟩ : ∃ s2, s2 = 2 * s := ⟨_, rfl⟩
          have e2s : 2 * (s : Int) = (s2 : Int) := by omega
          have e2s' : (s : Int) * 2 = (s2 : Int) := by omega
          have ws : IntKind.i64.wrap (2 * (s : Int)) = 2 * (s : Int) := by rw [IntKind.wrap_i64]; omega
          have ws' : IntKind.i64.wrap ((s : Int) * 2) = (s : Int) * 2 := by rw [IntKind.wrap_i64]; omega
          have hs2b : s2 ≤ 2000000 := by omega
          have hs2s : s < s2 := by omega
          have hs22 : 20 ≤ s2 := by omega
          have HS2 := Lib.hid hs2
          clear hs2
          have hsn' : (s : Int) < (d0.size : Int) := by omega
          go_wp2_with fail
          go_loopw [7, 8] (fun av bv wr => ∃ (a b : Nat) (dk : Array α), av = .int .i64 a ∧ bv = .int .i64 b ∧ Hid (b = a + s2) ∧ a ≤ d0.size ∧ Hid (dk.size = d0.size) ∧ Hid (∃ A : List α, A.length = a ∧ dk.toList = A ++ cs lt s (L0.drop a) ∧ A ++ cs lt s2 (L0.drop a) = cs lt s2 L0) ∧ Aside (SWK enc k w0 blk off dk wr)) (fun av _ _ => d0.size - (RowKit.intOf av).toNat)
          case atStart => exact ⟨0, s2, ds, rfl, rfl, by show _ = _; omega, Nat.zero_le _, hds, ⟨[], rfl, by rw [HK.out]; rfl, rfl⟩, S1⟩
          case round =>
            clear S1 HK hds
            obtain ⟨a, b, dk, rfl, rfl, HAB, han, hds, HK, S1⟩ := hrel
            have hab := HAB.out
            have hRl : (L0.drop a).length = d0.size - a := by simp; have := HN.out; omega
            obtain ⟨m, hm⟩ : ∃ m, m = a + s := ⟨_, rfl⟩
            have eas : (a : Int) + (s : Int) = (m : Int) := by omega
            have HMM := Lib.hid hm
            have hmb : m ≤ 4000000 := by omega
            clear hm
            by_cases hbn : b ≤ d0.size
            · obtain ⟨A, hA, hdk, hcs⟩ := HK.out
              have hl1 : (ss lt ((L0.drop a).take s)).length = s := by rw [ss_length]; simp; have := HN.out; have := HS2.out; have := HMM.out; omega
              have hl2 : (ss lt (((L0.drop a).drop s).take s)).length = s := by rw [ss_length]; simp; have := HN.out; have := HS2.out; omega
              have hR : (L0.drop a).take s2 = (L0.drop a).take s ++ ((L0.drop a).drop s).take s := by rw [HS2.out, Nat.two_mul, List.take_add]
              have hc := HM.out a m b dk wr A (ss lt ((L0.drop a).take s)) (ss lt (((L0.drop a).drop s).take s)) (cs lt s (L0.drop b)) (by omega) hds.out.symm (by rw [hdk, cs_step lt s (by omega) (L0.drop a), cs_step lt s (by omega) ((L0.drop a).drop s), hab, List.drop_drop, List.drop_drop, show a + s + s = a + s2 by have := HS2.out; omega]; simp) hA.symm (by rw [hl1, hA]; exact HMM.out) (by rw [hl1, hl2, hA]; have := HS2.out; omega) (by omega) (by have := HMM.out; omega) (ss_up SO.out _) (ss_up SO.out _) S1.out
              have hK3 : Hid (∀ d1 : Array α, d1.toList = A ++ mrg lt (ss lt ((L0.drop a).take s)) (ss lt (((L0.drop a).drop s).take s)) ++ cs lt s (L0.drop b) → ∃ A : List α, A.length = b ∧ d1.toList = A ++ cs lt s (L0.drop b) ∧ A ++ cs lt s2 (L0.drop b) = cs lt s2 L0) := fun d1 h1 =>
                ⟨A ++ ss lt ((L0.drop a).take s2), by rw [List.length_append, ss_length, List.length_take, hRl, hA]; omega, by rw [h1, mrg_ss SO.out, hR], by rw [← hcs, cs_step lt s2 (by omega) (L0.drop a), hab, List.append_assoc, List.drop_drop]⟩
              have hc' : (b : Int) ≤ (d0.size : Int) := by omega
              clear hA hdk hcs HK S1 hl1 hl2 hR hRl hab
              go_wp2_with fail
              refine hc.mono ?_
              clear hc
              rintro e w2 ⟨rfl, d2, hd2, l2, T2⟩
              have S1 : Aside (SWK enc k w0 blk off d2 w2) := T2
              have hd2' := Lib.hid hd2
              have HK1 : Hid (∃ A : List α, A.length = b ∧ d2.toList = A ++ cs lt s (L0.drop b) ∧ A ++ cs lt s2 (L0.drop b) = cs lt s2 L0) := hK3.out d2 l2
              clear T2 l2 hK3 hd2
              go_wp2_with fail
              go_roundw
              case rel => exact ⟨b, b + s2, d2, rfl, by go_num, rfl, hbn, hd2', HK1, S1⟩
              case measure => (try have hab := HAB.out); simp [RowKit.intOf]; omega
            · have hc' : ¬ (b : Int) ≤ (d0.size : Int) := by omega
              by_cases hm : m < d0.size
              · obtain ⟨A, hA, hdk, hcs⟩ := HK.out
                have hl1 : (ss lt ((L0.drop a).take s)).length = s := by rw [ss_length]; simp; have := HN.out; have := HS2.out; have := HMM.out; omega
                have hl2 : (ss lt ((L0.drop a).drop s)).length = d0.size - a - s := by rw [ss_length]; simp; have := HN.out; omega
                have hc := HM.out a m d0.size dk wr A (ss lt ((L0.drop a).take s)) (ss lt ((L0.drop a).drop s)) [] (by omega) hds.out.symm (by rw [hdk, cs_step lt s (by omega) (L0.drop a), cs_small lt s (by omega) ((L0.drop a).drop s) (by simp; have := HN.out; have := HS2.out; omega)]; simp) hA.symm (by rw [hl1, hA]; exact HMM.out) (by rw [hl1, hl2, hA]; have := HS2.out; omega) (by omega) (by have := HMM.out; omega) (ss_up SO.out _) (ss_up SO.out _) S1.out
                have hK3 : Hid (∀ d1 : Array α, d1.toList = A ++ mrg lt (ss lt ((L0.drop a).take s)) (ss lt ((L0.drop a).drop s)) ++ [] → d1.toList = cs lt s2 L0) := fun d1 h1 => by
                  rw [h1, mrg_ss SO.out, List.take_append_drop, ← hcs, cs_small lt s2 (by omega) _ (by have := HS2.out; have := HMM.out; omega)]; simp
                have hm' : (m : Int) < (d0.size : Int) := by omega
                clear hA hdk hcs HK S1 hl1 hl2 hRl hab
                go_wp2_with fail
                refine hc.mono ?_
                clear hc
                rintro e w2 ⟨rfl, d2, hd2, l2, T2⟩
                have S1 : Aside (SWK enc k w0 blk off d2 w2) := T2
                have hd2' := Lib.hid hd2
                have HK1 : Hid (d2.toList = cs lt s2 L0) := hK3.out d2 l2
                clear T2 l2 hK3 hd2
                go_wp2_with fail
                go_roundw
                case rel => exact ⟨s2, d2, rfl, by omega, by omega, hd2', HK1, S1⟩
                case measure => (try have hab := HAB.out); simp [RowKit.intOf]; omega
              · have hm' : ¬ (m : Int) < (d0.size : Int) := by omega
                have HK1 : Hid (dk.toList = cs lt s2 L0) := by
                  obtain ⟨A, hA, hdk, hcs⟩ := HK.out
                  show _ = _
                  rw [hdk, ← hcs, cs_small lt s2 (by omega) _ (by have := HS2.out; have := HMM.out; omega), cs_small lt s (by omega) _ (by have := HMM.out; omega)]
                clear HK hRl hab
                go_wp2_with fail
                go_roundw
                case rel => exact ⟨s2, dk, rfl, by omega, by omega, hds, HK1, S1⟩
                case measure => (try have hab := HAB.out); simp [RowKit.intOf]; omega
        · have hsn' : ¬ (s : Int) < (d0.size : Int) := by omega
          go_wp2
          go_end0
          exact ⟨rfl, ds, hds.out, by rw [HK.out, cs_small lt s (by omega) _ (by rw [HN.out]; omega)], S1.out⟩
end Go.Proofs.Ytkhpoeolnhfflaa
