/-
  rules.Find, rules.Named, stetref00.SameInts of equal rows. Conditions: the two tables of unicode/utf8.
-/
import Derived.Test.YtlebikmiophghaaDoorRulesAt
import Derived.BigQuiet
namespace Go.Proofs.YtlebikmiophghaaDoor
open Go.RowKit Go.Lib

theorem rules_all_any (w : World) : Calls Tryd.prog 28 #[] w fun e w' => (∃ g, e = .returned (.slice (some ⟨g, 0, none⟩) 40 40) ∧ RulesIn w' w.heap.size g) ∧ Below w.heap.size w w' := by
  refine (all_any w).mono ?_
  rintro e w' ⟨he, hw⟩
  subst hw
  obtain ⟨h1, h2⟩ := rulesIn_all w
  exact ⟨⟨_, he, h1⟩, h2⟩

set_option maxHeartbeats 4000000 in
theorem find_any (wd : ByteArray) (hwd : wd.size ≤ 1000000) (w : World) (hT : Tabs w) : Calls Tryd.prog 23 #[.string wd] w fun e w' => e = .returned (.int .i64 (findP wd.data.toList)) ∧ Below w.heap.size w w' := by
  have hN : Below w.heap.size w (w.alloc (.cells #[.string wd] 9)) := (Below.refl _ w).alloc (Nat.le_refl _) _
  have hn := heap_alloc_new w (.cells #[.string wd] 9)
  have zN : (w.alloc (.cells #[.string wd] 9)).heap.size = w.heap.size + 1 := by simp
  have hTn := hT.below hN
  go_enter Tryd.func23, Tryd.ntmps23
  go_wp2_with (first
    | (go_at_call 28; refine (rules_all_any _).mono ?_; rintro e w1 ⟨⟨g, rfl, hR⟩, b1⟩; have z1 := b1.size)
    | (go_at_call 45; refine (index_rules wd hwd _ g w.heap.size w1 (hTn.below b1) hR (by simp [World.cell?, (b1.block w.heap.size (by omega)).trans hn]) (by omega)).mono ?_; rintro e w2 ⟨rfl, b2⟩))
  go_ret
  exact ⟨rfl, hN.trans ((b1.mono (by omega)).trans (b2.mono (by omega)))⟩

set_option maxHeartbeats 1000000 in
theorem named1_any (t : List UInt8) (ht : ∀ b ∈ t, b.toNat < 128) (htl : t.length ≤ 1000) (wd : ByteArray) (hwd : wd.size ≤ 1000000) (B : Nat) (w : World) (hT : Tabs w) (hB : w.cell? ⟨B, 0, none⟩ = some (.string wd)) :
    Calls Tryd.prog 50 #[.string ⟨t.toArray⟩, .pointer (some ⟨B, 0, none⟩)] w fun e w' => e = .returned (.bool (sameW t wd.data.toList)) ∧ Below w.heap.size w w' := by
  have k := same_any t ht htl wd hwd w hT
  go_enter Tryd.func50, Tryd.ntmps50
  go_wp2_with fail
  refine k.mono ?_
  rintro e w1 ⟨rfl, b1⟩
  go_wp2_with fail
  go_ret
  exact ⟨rfl, b1⟩

/-- The place of the first word that is one with another. -/
def firstTag (w : List UInt8) : Nat → List (List UInt8) → Int
  | _, [] => -1
  | i, t :: ts => if sameW t w then (i : Int) else firstTag w (i + 1) ts
theorem firstTag_any (w : List UInt8) : ∀ (l : List (List UInt8)) (i : Nat), (0 ≤ firstTag w i l) ↔ (l.any fun t => sameW t w) = true
  | [], i => by simp [firstTag]
  | t :: ts, i => by
    simp only [firstTag, List.any_cons]
    cases h : sameW t w
    · simp only [Bool.false_eq_true, if_false, Bool.false_or]; exact firstTag_any w ts (i + 1)
    · simp
theorem firstTag_drop (w : List UInt8) (l : List (List UInt8)) (k : Nat) (h : k < l.length) : firstTag w k (l.drop k) = if sameW l[k] w then (k : Int) else firstTag w (k + 1) (l.drop (k + 1)) := by
  rw [List.drop_eq_getElem_cons h]; rfl
theorem firstTag_range (w : List UInt8) : ∀ (l : List (List UInt8)) (i : Nat), -1 ≤ firstTag w i l ∧ firstTag w i l < i + l.length
  | [], i => by simp [firstTag]; omega
  | r :: rs, i => by
    have := firstTag_range w rs (i + 1)
    simp only [firstTag, List.length_cons]
    split <;> omega

set_option maxHeartbeats 4000000 in
set_option maxRecDepth 100000 in
theorem index_tags (ts : List (List UInt8)) (hts : ∀ t ∈ ts, (∀ b ∈ t, b.toNat < 128) ∧ t.length < 100) (hl : ts.length ≤ 4) (wd : ByteArray) (hwd : wd.size ≤ 1000000) (g B : Nat) (w : World) (hT : Tabs w)
    (hR : w.heap[g]? = some (.cells (ts.map strV).toArray 9)) (hB : w.cell? ⟨B, 0, none⟩ = some (.string wd)) (hBl : B < w.heap.size) :
    Calls Tryd.prog 67 #[.slice (some ⟨g, 0, none⟩) ts.length ts.length, .func (.func 50) #[] #[.pointer (some ⟨B, 0, none⟩)]] w fun e w' => e = .returned (.int .i64 (firstTag wd.data.toList 0 ts)) ∧ Below w.heap.size w w' := by
  have hgl := (Array.getElem?_eq_some_iff.1 hR).1
  have HF := Lib.hid (firstTag_drop wd.data.toList ts)
  go_enter Tryd.func67, Tryd.ntmps67
  go_wp2
  go_loopw [5, 8] (fun _ iv wr => ∃ k : Nat, k ≤ ts.length ∧ iv = .int .i64 k ∧ Below w.heap.size w wr ∧ RowKit.Hid (firstTag wd.data.toList 0 ts = firstTag wd.data.toList k (ts.drop k))) (fun _ iv _ => ts.length - (RowKit.intOf iv).toNat)
  case atStart => exact ⟨0, Nat.zero_le _, rfl, Below.refl _ _, Lib.hid rfl⟩
  case round =>
    obtain ⟨k, hk, rfl, hbw, HI⟩ := hrel
    have zr := hbw.size
    by_cases hlt : k < ts.length
    · obtain ⟨t1, t2⟩ := hts _ (List.getElem_mem hlt)
      have c0 : wr.cell? ⟨g, k, none⟩ = some (.string ⟨ts[k].toArray⟩) := by
        simp [World.cell?, (hbw.block g hgl).trans hR, List.getElem?_eq_getElem hlt, strV]
      have cB := hB
      rw [← hbw.cell (p := ⟨B, 0, none⟩) hBl] at cB
      have kf := named1_any ts[k] t1 (by omega) wd hwd B wr (hT.below hbw) cB
      have HD := Lib.hid (HF.out k hlt)
      have i1 : (k : Int) < (ts.length : Int) := by omega
      generalize ts[k] = t at *
      go_wp2_with fail
      refine kf.mono ?_
      rintro e w1 ⟨rfl, b1⟩
      cases hh : sameW t wd.data.toList
      · go_wp2_with fail
        go_roundw
        case rel =>
          refine ⟨k + 1, by omega, by go_num, hbw.trans (b1.mono zr), Lib.hid ?_⟩
          rw [HI.out, HD.out, hh]; rfl
        case measure => simp [RowKit.intOf]; omega
      · go_wp2_with fail
        go_ret
        refine ⟨ret_int ?_, hbw.trans (b1.mono zr)⟩
        rw [HI.out, HD.out, hh]; rfl
    · obtain rfl : k = ts.length := by omega
      go_wp2_with fail
      go_ret
      refine ⟨ret_int ?_, hbw⟩
      rw [HI.out, List.drop_of_length_le (by omega)]; rfl

set_option maxHeartbeats 1000000 in
theorem contains_tags (ts : List (List UInt8)) (hts : ∀ t ∈ ts, (∀ b ∈ t, b.toNat < 128) ∧ t.length < 100) (hl : ts.length ≤ 4) (wd : ByteArray) (hwd : wd.size ≤ 1000000) (g B : Nat) (w : World) (hT : Tabs w)
    (hR : w.heap[g]? = some (.cells (ts.map strV).toArray 9)) (hB : w.cell? ⟨B, 0, none⟩ = some (.string wd)) (hBl : B < w.heap.size) :
    Calls Tryd.prog 49 #[.slice (some ⟨g, 0, none⟩) ts.length ts.length, .func (.func 50) #[] #[.pointer (some ⟨B, 0, none⟩)]] w fun e w' => e = .returned (.bool (ts.any fun t => sameW t wd.data.toList)) ∧ Below w.heap.size w w' := by
  have k := index_tags ts hts hl wd hwd g B w hT hR hB hBl
  have HA := Lib.hid (firstTag_any wd.data.toList ts 0)
  have hr := firstTag_range wd.data.toList ts 0
  generalize firstTag wd.data.toList 0 ts = r at *
  go_enter Tryd.func49, Tryd.ntmps49
  go_wp2_with fail
  refine k.mono ?_
  rintro e w1 ⟨rfl, b1⟩
  go_wp2_with fail
  go_ret
  refine ⟨ret_bool ?_, b1⟩
  rw [Bool.eq_iff_iff, ← HA.out]
  simp

/-- A slice holds numbers, in a row's beginning. -/
def IntsAt (w : World) (v : Value) (l : List Nat) : Prop :=
  ∃ a cap, v = .slice a l.length cap ∧ l.length ≤ cap ∧ (l ≠ [] → ∃ g, a = some ⟨g, 0, none⟩ ∧ g < w.heap.size ∧ ∀ k (h : k < l.length), w.cell? ⟨g, k, none⟩ = some (.int .i64 l[k]))
def natCells (l : List Nat) : List Value := l.map fun (n : Nat) => Value.int .i64 (n : Int)
theorem IntsAt.of_owns {w : World} {base : Nat} {v : Value} {l : List Nat} (h : w.ownsRow base 3 1 v l.length (natCells l)) : IntsAt w v l := by
  rcases h.2 with ⟨hv, hn⟩ | ⟨g, cap, cur, hv, hg, hh, hc, hm, hs, ht⟩
  · have : l = [] := List.length_eq_zero_iff.1 hn
    subst this
    exact ⟨none, 0, hv, Nat.le_refl _, fun h => absurd rfl h⟩
  · refine ⟨some ⟨g, 0, none⟩, cap, hv, hc, fun _ => ⟨g, rfl, (Array.getElem?_eq_some_iff.1 hh).1, fun k hk => ?_⟩⟩
    have hu : (natCells l)[k]? = some (.int .i64 l[k]) := by unfold natCells; rw [List.getElem?_map, List.getElem?_eq_getElem hk]; rfl
    rw [← ht, List.getElem?_take_of_lt (by omega)] at hu
    simp only [World.cell?, hh]
    simpa using hu
theorem IntsAt.below {w w' : World} {v : Value} {l : List Nat} (h : IntsAt w v l) (hb : Below w.heap.size w w') : IntsAt w' v l := by
  obtain ⟨a, cap, hv, hc, hr⟩ := h
  refine ⟨a, cap, hv, hc, fun hne => ?_⟩
  obtain ⟨g, ha, hg, hcell⟩ := hr hne
  have hs := hb.size
  exact ⟨g, ha, by omega, fun k hk => by rw [hb.cell (p := ⟨g, k, none⟩) hg]; exact hcell k hk⟩
theorem IntsAt.one {w : World} {n : Nat} : IntsAt (w.alloc (.cells #[.int .i64 (n : Int)] 3)) (.slice (some ⟨w.heap.size, 0, none⟩) 1 1) [n] := by
  refine ⟨_, _, rfl, Nat.le_refl _, fun _ => ⟨_, rfl, by simp, fun k hk => ?_⟩⟩
  have : k = 0 := by simp at hk; omega
  subst this
  rw [World.cell?_alloc_new]; rfl

set_option maxHeartbeats 2000000 in
set_option maxRecDepth 100000 in
theorem sameInts_any (l : List Nat) (hl : l.length ≤ 1000000) (hlv : ∀ n ∈ l, n ≤ 1000000) (va vb : Value) (w : World) (ha : IntsAt w va l) (hb : IntsAt w vb l) :
    Calls Tryd.prog 25 #[va, vb] w fun e w' => e = .returned (.bool true) ∧ Below w.heap.size w w' := by
  obtain ⟨a, cap, rfl, hc, hr⟩ := ha
  obtain ⟨a2, cap2, rfl, hc2, hr2⟩ := hb
  go_enter Tryd.func25, Tryd.ntmps25
  go_wp2
  go_loopw [5] (fun i wr => ∃ k : Nat, k ≤ l.length ∧ i = .int .i64 k ∧ Below w.heap.size w wr) (fun i _ => l.length - (RowKit.intOf i).toNat)
  case atStart => exact ⟨0, Nat.zero_le _, rfl, Below.refl _ _⟩
  case round =>
    obtain ⟨k, hk, rfl, hbw⟩ := hrel
    by_cases hlt : k < l.length
    · have hne : l ≠ [] := by intro e; subst e; simp at hlt
      obtain ⟨g, rfl, hg, hcell⟩ := hr hne
      obtain ⟨g2, rfl, hg2, hcell2⟩ := hr2 hne
      have c0 := hcell k hlt
      have d0 := hcell2 k hlt
      rw [← hbw.cell (p := ⟨g, _, none⟩) hg] at c0
      rw [← hbw.cell (p := ⟨g2, _, none⟩) hg2] at d0
      clear hcell hcell2 hr hr2
      have i1 : (k : Int) < (l.length : Int) := by omega
      go_wp2
      go_quiet (fail)
      go_wp2
      go_roundw
      case rel => exact ⟨k + 1, by omega, by go_num, below_drewN hbw⟩
      case measure => simp [RowKit.intOf]; omega
    · clear hr hr2
      go_wp2
      go_ret
      exact ⟨rfl, hbw⟩
end Go.Proofs.YtlebikmiophghaaDoor
