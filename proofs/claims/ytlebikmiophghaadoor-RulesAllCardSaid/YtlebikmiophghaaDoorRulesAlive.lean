/-
  The catalogue that the document fixes is so; small laws. Conditions: the two tables of unicode/utf8.
-/
import Derived.Test.YtlebikmiophghaaDoorRulesNamed
import Derived.Laws.BytesArg
namespace Go.Proofs.YtlebikmiophghaaDoor
open Go.RowKit Go.Lib

theorem infoByteD : (Tryd.prog.info? 5).map (fun i => (i.zero, i.size, i.bytes)) = some (some (.int .u8 0), 1, 1) := by kernel_rfl
theorem owns_form {w : World} {base n size : Nat} {e : TypeId} {v : Value} {xs : List Value} (h : w.ownsRow base e size v n xs) (hn : 0 < n) : ∃ g cap, v = .slice (some ⟨g, 0, none⟩) n cap := by
  rcases h.2 with ⟨_, h0⟩ | ⟨g, cap, cur, hv, _⟩
  · omega
  · exact ⟨g, cap, hv⟩
theorem strOfNums_bytes (l : List UInt8) : strOfNums (l.map fun b => (b.toNat : Int)) = ⟨l.toArray⟩ := by
  have h : ((l.map fun b => (b.toNat : Int)).map fun n => UInt8.ofNat n.toNat) = l := by
    rw [List.map_map]
    conv => rhs; rw [← List.map_id l]
    refine List.map_congr_left fun b _ => ?_
    simp
  show (⟨((l.map fun b => (b.toNat : Int)).map fun n => UInt8.ofNat n.toNat).toArray⟩ : ByteArray) = _
  rw [h]
theorem take_up (s : ByteArray) (k : Nat) (hk : k < s.size) : (s.data.toList.take (k + 1)).map upB = (s.data.toList.take k).map upB ++ [upB s[k]] := by
  have h2 : k < s.data.toList.length := by simpa using hk
  rw [List.take_succ_eq_append_getElem h2, List.map_append]; rfl

set_option maxHeartbeats 8000000 in
set_option maxRecDepth 100000 in
theorem rules_alive (w : World) (hT : Tabs w) : Calls Tryd.prog 22 #[] w fun e w' => e = .returned (.bool true) ∧ Below w.heap.size w w' := by
  have C1 := Lib.hid (show findP [109, 100, 48, 48, 57] = 4 by decide +kernel)
  have C2 := Lib.hid (show findP [104, 114] = -1 by decide +kernel)
  have C3 := Lib.hid (show namedP [104, 114] = [25] by decide +kernel)
  have C4 := Lib.hid (show namedP [77, 68, 48, 48, 49] = [0] by decide +kernel)
  go_enter Tryd.func22, Tryd.ntmps22
  go_wp2_with fail
  refine (rules_all_any _).mono ?_
  rintro e w1 ⟨⟨g, rfl, hR⟩, b1⟩
  clear hR
  have z1 := b1.size
  have hT1 := hT.below b1
  go_wp2_with fail
  refine (find_any _ (by decide) _ hT1).mono ?_
  rintro e w2 ⟨rfl, b2⟩
  rw [C1.out]
  have z2 := b2.size
  have hT2 := hT1.below b2
  go_wp2_with fail
  refine (find_any _ (by decide) _ hT2).mono ?_
  rintro e w3 ⟨rfl, b3⟩
  rw [C2.out]
  have z3 := b3.size
  have hT3 := hT2.below b3
  have hb3 : Below w.heap.size w w3 := b1.trans ((b2.mono z1).trans (b3.mono (by omega)))
  go_wp2_with fail
  refine (named_any _ (by decide) _ hT3).mono ?_
  rintro e w4 ⟨⟨v4, rfl, h4⟩, b4⟩
  rw [C3.out] at h4
  have z4 := b4.size
  have hT4 := hT3.below b4
  have hN4 : Below w4.heap.size w4 (w4.alloc (.cells #[.int .i64 25] 3)) := (Below.refl _ w4).alloc (Nat.le_refl _) _
  have i4 := IntsAt.one (w := w4) (n := 25)
  have h4' := h4.below hN4
  have hT4' := hT4.below hN4
  have zN4 : (w4.alloc (.cells #[.int .i64 25] 3)).heap.size = w4.heap.size + 1 := by simp
  go_wp2_with fail
  refine (sameInts_any [25] (by decide) (by decide) _ _ _ h4' i4).mono ?_
  rintro e w5 ⟨rfl, b5⟩
  have z5 := b5.size
  have hT5 := hT4'.below b5
  go_wp2_with fail
  refine (named_any _ (by decide) _ hT5).mono ?_
  rintro e w6 ⟨⟨v6, rfl, h6⟩, b6⟩
  rw [C4.out] at h6
  have z6 := b6.size
  have hN6 : Below w6.heap.size w6 (w6.alloc (.cells #[.int .i64 0] 3)) := (Below.refl _ w6).alloc (Nat.le_refl _) _
  have i6 := IntsAt.one (w := w6) (n := 0)
  have h6' := h6.below hN6
  have zN6 : (w6.alloc (.cells #[.int .i64 0] 3)).heap.size = w6.heap.size + 1 := by simp
  go_wp2_with fail
  refine (sameInts_any [0] (by decide) (by decide) _ _ _ h6' i6).mono ?_
  rintro e w7 ⟨rfl, b7⟩
  go_wp2_with fail
  go_ret
  exact ⟨rfl, hb3.trans ((b4.mono (by omega)).trans ((hN4.mono (by omega)).trans ((b5.mono (by omega)).trans ((b6.mono (by omega)).trans ((hN6.mono (by omega)).trans (b7.mono (by omega)))))))⟩
end Go.Proofs.YtlebikmiophghaaDoor
