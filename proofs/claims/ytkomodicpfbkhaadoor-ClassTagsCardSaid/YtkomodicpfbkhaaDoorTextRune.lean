/-
  text.Rune: it answers the model's own decoding. Conditions: the two tables of unicode/utf8 hold what their initialisers lay.
-/
import Derived.Test.YtkomodicpfbkhaaDoorRefRune
import Derived.Test.YtkomodicpfbkhaaDoorShelf
import Derived.Lib.RuneCountTail
namespace Go.Proofs.YtkomodicpfbkhaaDoor
open Go.RowKit Go.Lib

abbrev Tabs (w : World) : Prop := Lib.Utf8Tabs 0 1 w
theorem Tabs.below {w w' : World} (h : Tabs w) (hb : Below w.heap.size w w') : Tabs w' := Utf8Tabs_below h hb

theorem decodeGo_tail (s : ByteArray) (p : Nat) (hp : p < s.size) : Lib.decodeGo (s.extract p s.size) = Utf8.decode s p := by
  show decodeGoB _ = _
  unfold decodeGoB
  have h : (s.extract p s.size).size ≠ 0 := by rw [ByteArray.size_extract]; omega
  rw [if_neg h, tail_decode]
  rfl

set_option maxHeartbeats 1000000 in
theorem text_rune_any (s : ByteArray) (hs : s.size ≤ maxLen) (i : Int) (w : World) (hT : Tabs w) : Calls Tryd.prog 12 #[.string s, .int .i64 i] w fun e w' => e = .returned (runeV s i) ∧ Below w.heap.size w w' := by
  unfold maxLen at hs
  by_cases ho : i < 0 ∨ (s.size : Int) ≤ i
  · have HP := Lib.hid (runeV_out s i ho)
    by_cases h0 : i < 0
    · clear ho
      go_enter Tryd.func12, Tryd.ntmps12
      go_wp2
      go_ret2
      exact ⟨by rw [HP.out]; rfl, Below.refl _ _⟩
    · have h1 : (s.size : Int) ≤ i := by omega
      clear ho
      go_enter Tryd.func12, Tryd.ntmps12
      go_wp2
      go_ret2
      exact ⟨by rw [HP.out]; rfl, Below.refl _ _⟩
  · obtain ⟨p, rfl⟩ : ∃ p : Nat, i = p := ⟨i.toNat, by omega⟩
    have hp : p < s.size := by omega
    clear ho
    have HD := Lib.hid (decodeGo_tail s p hp)
    have HP := Lib.hid (runeV_at s p hp _ _ rfl)
    have hd1 := decode_le s p
    have hd2 : (Utf8.decode s p).1 ≤ 1114111 := rune_le s p
    go_enter Tryd.func12, Tryd.ntmps12
    go_wp2_with (go_at_call 23; refine (Tryd.utf8_DecodeRuneInString _ _ hT).mono ?_; rintro e w1 ⟨rfl, b1⟩; rw [HD.out])
    go_ret2
    exact ⟨by rw [HP.out]; rfl, b1⟩
end Go.Proofs.YtkomodicpfbkhaaDoor
