/-
  The reference's Rune: it answers the model's own decoding. Conditions: none.
-/
import Derived.Test.YtkomodicpfbkhaaDoorUtf
import Derived.Test.YtkomodicpfbkhaaDoorChecked
import Derived.WalkKit
import Derived.WalkSpells
import Derived.Lib.Hide
import Derived.Lib.DecodeN
namespace Go.Proofs.YtkomodicpfbkhaaDoor
set_option linter.unusedVariables false
open Go.RowKit Go.Lib

/-- What the bytes behind a lead byte make of its number. -/
def contV (s : ByteArray) (p : Nat) (v : Int) : Nat → Int
  | 0 => v
  | k + 1 => contV s p v k * 64 + ((s.get! (p + (k + 1))).toNat : Int) - 128

theorem get_bang (s : ByteArray) (q : Nat) (h : q < s.size) : s.get! q = s[q] := by
  simp [ByteArray.get!, ByteArray.getElem_eq_getElem_data, getElem!_pos s.data q (by simpa using h)]

/-- The character at an offset: what the model's own decoding says. -/
def runeP (s : ByteArray) (i : Int) : Int × Int := if i < 0 ∨ (s.size : Int) ≤ i then (0, 0) else ((Utf8.decode s i.toNat).1, (Utf8.decode s i.toNat).2)
def runeV (s : ByteArray) (i : Int) : Value := .tuple #[.int .i64 (runeP s i).1, .int .i64 (runeP s i).2]

theorem runeV_out (s : ByteArray) (i : Int) (h : i < 0 ∨ (s.size : Int) ≤ i) : runeV s i = .tuple #[.int .i64 0, .int .i64 0] := by
  unfold runeV runeP; rw [if_pos h]
theorem runeV_at (s : ByteArray) (p : Nat) (hp : p < s.size) (a b : Nat) (h : Utf8.decode s p = (a, b)) : runeV s p = .tuple #[.int .i64 a, .int .i64 b] := by
  unfold runeV runeP
  rw [if_neg (by omega), Int.toNat_natCast, h]

theorem runeV_1 (s : ByteArray) (p : Nat) (hp : p < s.size) (h : (s[p]).toNat < 128) : runeV s p = .tuple #[.int .i64 (s[p]).toNat, .int .i64 1] :=
  runeV_at s p hp _ 1 (by rw [decode_at, get_bang s p hp]; unfold decodeN; rw [if_pos h])

theorem decodeN_lead (n b0 b1 b2 b3 : Nat) (h : (128 ≤ b0 ∧ b0 < 192) ∨ 248 ≤ b0) (_hb : b0 < 256) : decodeN n b0 b1 b2 b3 = (65533, 1) := by
  unfold decodeN
  rw [if_neg (by omega), if_neg (by omega), if_neg (by omega), if_neg (by omega)]
theorem runeV_0 (s : ByteArray) (p : Nat) (hp : p < s.size) (h : (128 ≤ (s[p]).toNat ∧ (s[p]).toNat < 192) ∨ 248 ≤ (s[p]).toNat) : runeV s p = .tuple #[.int .i64 65533, .int .i64 1] :=
  runeV_at s p hp 65533 1 (by rw [decode_at, get_bang s p hp]; exact decodeN_lead _ _ _ _ _ h (s[p]).toNat_lt)

set_option maxHeartbeats 4000000 in
set_option maxRecDepth 100000 in
theorem ref_rune_out (s : ByteArray) (i : Int) (h : i < 0 ∨ s.size ≤ i) (w : World) : Calls Tryd.prog 24 #[.string s, .int .i64 i] w fun e w' => e = .returned (runeV s i) ∧ Below w.heap.size w w' := by
  have HP := Lib.hid (runeV_out s i h)
  by_cases h0 : i < 0
  · clear h
    go_enter Tryd.func24, Tryd.ntmps24
    go_wp2
    go_ret2
    exact ⟨by rw [HP.out]; rfl, Below.refl _ _⟩
  · have h1 : (s.size : Int) ≤ i := by omega
    clear h
    go_enter Tryd.func24, Tryd.ntmps24
    go_wp2
    go_ret2
    exact ⟨by rw [HP.out]; rfl, Below.refl _ _⟩

set_option maxHeartbeats 4000000 in
set_option maxRecDepth 100000 in
theorem ref_rune_1 (s : ByteArray) (p : Nat) (hp : p < s.size) (h : (s[p]).toNat < 128) (w : World) : Calls Tryd.prog 24 #[.string s, .int .i64 p] w fun e w' => e = .returned (runeV s p) ∧ Below w.heap.size w w' := by
  have HP := Lib.hid (runeV_1 s p hp h)
  have hlt : (p : Int) < s.size := by omega
  go_enter Tryd.func24, Tryd.ntmps24
  go_wp2
  go_ret2
  exact ⟨by rw [HP.out]; rfl, Below.refl _ _⟩

set_option maxHeartbeats 4000000 in
set_option maxRecDepth 100000 in
/-- A byte that begins no character. -/
theorem ref_rune_0 (s : ByteArray) (p : Nat) (hp : p < s.size) (h : (128 ≤ (s[p]).toNat ∧ (s[p]).toNat < 192) ∨ 248 ≤ (s[p]).toNat) (w : World) : Calls Tryd.prog 24 #[.string s, .int .i64 p] w fun e w' => e = .returned (runeV s p) ∧ Below w.heap.size w w' := by
  have HP := Lib.hid (runeV_0 s p hp h)
  have hb := (s[p]).toNat_lt
  rcases h with ⟨h0, h1⟩ | h0
  all_goals
    go_enter Tryd.func24, Tryd.ntmps24
    go_wp2
    go_ret2
    exact ⟨by rw [HP.out]; rfl, Below.refl _ _⟩

theorem decodeN_short2 (m b0 b1 b2 b3 : Nat) (h0 : 192 ≤ b0) (h1 : b0 < 224) (hm : m < 2) : decodeN m b0 b1 b2 b3 = (65533, 1) := by
  unfold decodeN
  rw [if_neg (by omega)]
  repeat' split
  all_goals first | (exfalso; omega) | rfl
theorem decodeN_bad2 (m b0 b1 b2 b3 : Nat) (h0 : 192 ≤ b0) (h1 : b0 < 224) (k1 : b1 < 256) (k2 : b2 < 256) (k3 : b3 < 256) (h : (b1 < 128 ∨ 192 ≤ b1)) : decodeN m b0 b1 b2 b3 = (65533, 1) := by
  unfold decodeN
  rw [if_neg (by omega)]
  repeat' split
  all_goals first | (exfalso; omega) | rfl
theorem decodeN_good2 (m b0 b1 b2 b3 : Nat) (h0 : 192 ≤ b0) (h1 : b0 < 224) (hm : 2 ≤ m) (hb1 : 128 ≤ b1 ∧ b1 < 192) (v : Int) (hv : (((b0 : Int) - 192) * 64 + (b1 : Int) - 128) = v) :
    (¬ (v < 128 ∨ 1114111 < v ∨ (55296 ≤ v ∧ v < 57344)) → decodeN m b0 b1 b2 b3 = (v.toNat, 2)) ∧ ((v < 128 ∨ 1114111 < v ∨ (55296 ≤ v ∧ v < 57344)) → decodeN m b0 b1 b2 b3 = (65533, 1)) := by
  have hz : ((b0 % 32 * 64 + b1 % 64 : Nat) : Int) = v := by omega
  have hn : v.toNat = b0 % 32 * 64 + b1 % 64 := by omega
  constructor
  · intro h
    rw [hn]
    unfold decodeN
    rw [if_neg (by omega)]
    repeat' split
    all_goals first | (exfalso; omega) | rfl
  · intro h
    unfold decodeN
    rw [if_neg (by omega)]
    repeat' split
    all_goals first | (exfalso; omega) | rfl

set_option maxHeartbeats 4000000 in
set_option maxRecDepth 100000 in
theorem ref_rune_short2 (s : ByteArray) (p : Nat) (hp : p < s.size) (h0 : 192 ≤ (s[p]).toNat) (h1 : (s[p]).toNat < 224) (hn : s.size < p + 2) (w : World) : Calls Tryd.prog 24 #[.string s, .int .i64 p] w fun e w' => e = .returned (runeV s p) ∧ Below w.heap.size w w' := by
  have HP := Lib.hid (runeV_at s p hp 65533 1 (by rw [decode_at, get_bang s p hp]; exact decodeN_short2 _ _ _ _ _ h0 h1 (by omega)))
  have hb := (s[p]).toNat_lt
  go_enter Tryd.func24, Tryd.ntmps24
  go_wp2
  go_ret2
  exact ⟨by rw [HP.out]; rfl, Below.refl _ _⟩

theorem runeV_bad2 (s : ByteArray) (p : Nat) (hp : p < s.size) (h0 : 192 ≤ (s[p]).toNat) (h1 : (s[p]).toNat < 224) (k : Nat) (hk : k + 1 < 2) (hbad : (s.get! (p + (k + 1))).toNat < 128 ∨ 192 ≤ (s.get! (p + (k + 1))).toNat) : runeV s p = .tuple #[.int .i64 65533, .int .i64 1] := by
  refine runeV_at s p hp 65533 1 ?_
  rw [decode_at, get_bang s p hp]
  refine decodeN_bad2 _ _ _ _ _ h0 h1 (UInt8.toNat_lt _) (UInt8.toNat_lt _) (UInt8.toNat_lt _) ?_
  have : k = 0 := by omega
  rcases this with rfl <;> simp only [Nat.zero_add, Nat.reduceAdd] at hbad <;> omega

theorem runeV_good2 (s : ByteArray) (p : Nat) (hp : p < s.size) (h0 : 192 ≤ (s[p]).toNat) (h1 : (s[p]).toNat < 224) (hn : p + 2 ≤ s.size) (hc : ∀ j, 1 ≤ j → j < 2 → 128 ≤ (s.get! (p + j)).toNat ∧ (s.get! (p + j)).toNat < 192) (v : Int) (hv : contV s p ((s[p]).toNat - 192) 1 = v) :
    (¬ (v < 128 ∨ 1114111 < v ∨ (55296 ≤ v ∧ v < 57344)) → runeV s p = .tuple #[.int .i64 v, .int .i64 2]) ∧ ((v < 128 ∨ 1114111 < v ∨ (55296 ≤ v ∧ v < 57344)) → runeV s p = .tuple #[.int .i64 65533, .int .i64 1]) := by
  have hg := decodeN_good2 (s.size - p) (s[p]).toNat (s.get! (p + 1)).toNat (s.get! (p + 2)).toNat (s.get! (p + 3)).toNat h0 h1 (by omega) (hc 1 (by omega) (by omega)) v (by rw [← hv]; simp only [contV, Nat.zero_add, Nat.reduceAdd])
  constructor
  · intro h
    have := runeV_at s p hp v.toNat 2 (by rw [decode_at, get_bang s p hp]; exact hg.1 h)
    rw [this, show ((v.toNat : Nat) : Int) = v from by omega]; rfl
  · intro h
    exact runeV_at s p hp 65533 1 (by rw [decode_at, get_bang s p hp]; exact hg.2 h)

theorem decodeN_short3 (m b0 b1 b2 b3 : Nat) (h0 : 224 ≤ b0) (h1 : b0 < 240) (hm : m < 3) : decodeN m b0 b1 b2 b3 = (65533, 1) := by
  unfold decodeN
  rw [if_neg (by omega)]
  repeat' split
  all_goals first | (exfalso; omega) | rfl
theorem decodeN_bad3 (m b0 b1 b2 b3 : Nat) (h0 : 224 ≤ b0) (h1 : b0 < 240) (k1 : b1 < 256) (k2 : b2 < 256) (k3 : b3 < 256) (h : (b1 < 128 ∨ 192 ≤ b1) ∨ (b2 < 128 ∨ 192 ≤ b2)) : decodeN m b0 b1 b2 b3 = (65533, 1) := by
  unfold decodeN
  rw [if_neg (by omega)]
  repeat' split
  all_goals first | (exfalso; omega) | rfl
theorem decodeN_good3 (m b0 b1 b2 b3 : Nat) (h0 : 224 ≤ b0) (h1 : b0 < 240) (hm : 3 ≤ m) (hb1 : 128 ≤ b1 ∧ b1 < 192) (hb2 : 128 ≤ b2 ∧ b2 < 192) (v : Int) (hv : ((((b0 : Int) - 224) * 64 + (b1 : Int) - 128) * 64 + (b2 : Int) - 128) = v) :
    (¬ (v < 2048 ∨ 1114111 < v ∨ (55296 ≤ v ∧ v < 57344)) → decodeN m b0 b1 b2 b3 = (v.toNat, 3)) ∧ ((v < 2048 ∨ 1114111 < v ∨ (55296 ≤ v ∧ v < 57344)) → decodeN m b0 b1 b2 b3 = (65533, 1)) := by
  have hz : ((b0 % 16 * 4096 + b1 % 64 * 64 + b2 % 64 : Nat) : Int) = v := by omega
  have hn : v.toNat = b0 % 16 * 4096 + b1 % 64 * 64 + b2 % 64 := by omega
  constructor
  · intro h
    rw [hn]
    unfold decodeN
    rw [if_neg (by omega)]
    repeat' split
    all_goals first | (exfalso; omega) | rfl
  · intro h
    unfold decodeN
    rw [if_neg (by omega)]
    repeat' split
    all_goals first | (exfalso; omega) | rfl

set_option maxHeartbeats 4000000 in
set_option maxRecDepth 100000 in
theorem ref_rune_short3 (s : ByteArray) (p : Nat) (hp : p < s.size) (h0 : 224 ≤ (s[p]).toNat) (h1 : (s[p]).toNat < 240) (hn : s.size < p + 3) (w : World) : Calls Tryd.prog 24 #[.string s, .int .i64 p] w fun e w' => e = .returned (runeV s p) ∧ Below w.heap.size w w' := by
  have HP := Lib.hid (runeV_at s p hp 65533 1 (by rw [decode_at, get_bang s p hp]; exact decodeN_short3 _ _ _ _ _ h0 h1 (by omega)))
  have hb := (s[p]).toNat_lt
  go_enter Tryd.func24, Tryd.ntmps24
  go_wp2
  go_ret2
  exact ⟨by rw [HP.out]; rfl, Below.refl _ _⟩

theorem runeV_bad3 (s : ByteArray) (p : Nat) (hp : p < s.size) (h0 : 224 ≤ (s[p]).toNat) (h1 : (s[p]).toNat < 240) (k : Nat) (hk : k + 1 < 3) (hbad : (s.get! (p + (k + 1))).toNat < 128 ∨ 192 ≤ (s.get! (p + (k + 1))).toNat) : runeV s p = .tuple #[.int .i64 65533, .int .i64 1] := by
  refine runeV_at s p hp 65533 1 ?_
  rw [decode_at, get_bang s p hp]
  refine decodeN_bad3 _ _ _ _ _ h0 h1 (UInt8.toNat_lt _) (UInt8.toNat_lt _) (UInt8.toNat_lt _) ?_
  have : k = 0 ∨ k = 1 := by omega
  rcases this with rfl | rfl <;> simp only [Nat.zero_add, Nat.reduceAdd] at hbad <;> omega

theorem runeV_good3 (s : ByteArray) (p : Nat) (hp : p < s.size) (h0 : 224 ≤ (s[p]).toNat) (h1 : (s[p]).toNat < 240) (hn : p + 3 ≤ s.size) (hc : ∀ j, 1 ≤ j → j < 3 → 128 ≤ (s.get! (p + j)).toNat ∧ (s.get! (p + j)).toNat < 192) (v : Int) (hv : contV s p ((s[p]).toNat - 224) 2 = v) :
    (¬ (v < 2048 ∨ 1114111 < v ∨ (55296 ≤ v ∧ v < 57344)) → runeV s p = .tuple #[.int .i64 v, .int .i64 3]) ∧ ((v < 2048 ∨ 1114111 < v ∨ (55296 ≤ v ∧ v < 57344)) → runeV s p = .tuple #[.int .i64 65533, .int .i64 1]) := by
  have hg := decodeN_good3 (s.size - p) (s[p]).toNat (s.get! (p + 1)).toNat (s.get! (p + 2)).toNat (s.get! (p + 3)).toNat h0 h1 (by omega) (hc 1 (by omega) (by omega)) (hc 2 (by omega) (by omega)) v (by rw [← hv]; simp only [contV, Nat.zero_add, Nat.reduceAdd])
  constructor
  · intro h
    have := runeV_at s p hp v.toNat 3 (by rw [decode_at, get_bang s p hp]; exact hg.1 h)
    rw [this, show ((v.toNat : Nat) : Int) = v from by omega]; rfl
  · intro h
    exact runeV_at s p hp 65533 1 (by rw [decode_at, get_bang s p hp]; exact hg.2 h)

theorem decodeN_short4 (m b0 b1 b2 b3 : Nat) (h0 : 240 ≤ b0) (h1 : b0 < 248) (hm : m < 4) : decodeN m b0 b1 b2 b3 = (65533, 1) := by
  unfold decodeN
  rw [if_neg (by omega)]
  repeat' split
  all_goals first | (exfalso; omega) | rfl
theorem decodeN_bad4 (m b0 b1 b2 b3 : Nat) (h0 : 240 ≤ b0) (h1 : b0 < 248) (k1 : b1 < 256) (k2 : b2 < 256) (k3 : b3 < 256) (h : (b1 < 128 ∨ 192 ≤ b1) ∨ (b2 < 128 ∨ 192 ≤ b2) ∨ (b3 < 128 ∨ 192 ≤ b3)) : decodeN m b0 b1 b2 b3 = (65533, 1) := by
  unfold decodeN
  rw [if_neg (by omega)]
  repeat' split
  all_goals first | (exfalso; omega) | rfl
theorem decodeN_good4 (m b0 b1 b2 b3 : Nat) (h0 : 240 ≤ b0) (h1 : b0 < 248) (hm : 4 ≤ m) (hb1 : 128 ≤ b1 ∧ b1 < 192) (hb2 : 128 ≤ b2 ∧ b2 < 192) (hb3 : 128 ≤ b3 ∧ b3 < 192) (v : Int) (hv : (((((b0 : Int) - 240) * 64 + (b1 : Int) - 128) * 64 + (b2 : Int) - 128) * 64 + (b3 : Int) - 128) = v) :
    (¬ (v < 65536 ∨ 1114111 < v ∨ (55296 ≤ v ∧ v < 57344)) → decodeN m b0 b1 b2 b3 = (v.toNat, 4)) ∧ ((v < 65536 ∨ 1114111 < v ∨ (55296 ≤ v ∧ v < 57344)) → decodeN m b0 b1 b2 b3 = (65533, 1)) := by
  have hz : ((b0 % 8 * 262144 + b1 % 64 * 4096 + b2 % 64 * 64 + b3 % 64 : Nat) : Int) = v := by omega
  have hn : v.toNat = b0 % 8 * 262144 + b1 % 64 * 4096 + b2 % 64 * 64 + b3 % 64 := by omega
  constructor
  · intro h
    rw [hn]
    unfold decodeN
    rw [if_neg (by omega)]
    repeat' split
    all_goals first | (exfalso; omega) | rfl
  · intro h
    unfold decodeN
    rw [if_neg (by omega)]
    repeat' split
    all_goals first | (exfalso; omega) | rfl

set_option maxHeartbeats 4000000 in
set_option maxRecDepth 100000 in
theorem ref_rune_short4 (s : ByteArray) (p : Nat) (hp : p < s.size) (h0 : 240 ≤ (s[p]).toNat) (h1 : (s[p]).toNat < 248) (hn : s.size < p + 4) (w : World) : Calls Tryd.prog 24 #[.string s, .int .i64 p] w fun e w' => e = .returned (runeV s p) ∧ Below w.heap.size w w' := by
  have HP := Lib.hid (runeV_at s p hp 65533 1 (by rw [decode_at, get_bang s p hp]; exact decodeN_short4 _ _ _ _ _ h0 h1 (by omega)))
  have hb := (s[p]).toNat_lt
  go_enter Tryd.func24, Tryd.ntmps24
  go_wp2
  go_ret2
  exact ⟨by rw [HP.out]; rfl, Below.refl _ _⟩

theorem runeV_bad4 (s : ByteArray) (p : Nat) (hp : p < s.size) (h0 : 240 ≤ (s[p]).toNat) (h1 : (s[p]).toNat < 248) (k : Nat) (hk : k + 1 < 4) (hbad : (s.get! (p + (k + 1))).toNat < 128 ∨ 192 ≤ (s.get! (p + (k + 1))).toNat) : runeV s p = .tuple #[.int .i64 65533, .int .i64 1] := by
  refine runeV_at s p hp 65533 1 ?_
  rw [decode_at, get_bang s p hp]
  refine decodeN_bad4 _ _ _ _ _ h0 h1 (UInt8.toNat_lt _) (UInt8.toNat_lt _) (UInt8.toNat_lt _) ?_
  have : k = 0 ∨ k = 1 ∨ k = 2 := by omega
  rcases this with rfl | rfl | rfl <;> simp only [Nat.zero_add, Nat.reduceAdd] at hbad <;> omega

theorem runeV_good4 (s : ByteArray) (p : Nat) (hp : p < s.size) (h0 : 240 ≤ (s[p]).toNat) (h1 : (s[p]).toNat < 248) (hn : p + 4 ≤ s.size) (hc : ∀ j, 1 ≤ j → j < 4 → 128 ≤ (s.get! (p + j)).toNat ∧ (s.get! (p + j)).toNat < 192) (v : Int) (hv : contV s p ((s[p]).toNat - 240) 3 = v) :
    (¬ (v < 65536 ∨ 1114111 < v ∨ (55296 ≤ v ∧ v < 57344)) → runeV s p = .tuple #[.int .i64 v, .int .i64 4]) ∧ ((v < 65536 ∨ 1114111 < v ∨ (55296 ≤ v ∧ v < 57344)) → runeV s p = .tuple #[.int .i64 65533, .int .i64 1]) := by
  have hg := decodeN_good4 (s.size - p) (s[p]).toNat (s.get! (p + 1)).toNat (s.get! (p + 2)).toNat (s.get! (p + 3)).toNat h0 h1 (by omega) (hc 1 (by omega) (by omega)) (hc 2 (by omega) (by omega)) (hc 3 (by omega) (by omega)) v (by rw [← hv]; simp only [contV, Nat.zero_add, Nat.reduceAdd])
  constructor
  · intro h
    have := runeV_at s p hp v.toNat 4 (by rw [decode_at, get_bang s p hp]; exact hg.1 h)
    rw [this, show ((v.toNat : Nat) : Int) = v from by omega]; rfl
  · intro h
    exact runeV_at s p hp 65533 1 (by rw [decode_at, get_bang s p hp]; exact hg.2 h)
end Go.Proofs.YtkomodicpfbkhaaDoor
