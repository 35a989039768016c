/-
  tree.line: a node's line, without its place. Conditions: bounds on sizes; the table of powers of ten.
-/
import Derived.Test.YtlebikmiophghaaDoorTreeQuoted
import Derived.Test.YtlebikmiophghaaDoorTreeCopy
import Derived.Lib.ItoaLen
import Derived.Deep.Cut
import Derived.Deep.CutRange
import Derived.Deep.RegionHeld3
import Derived.Deep.RegionLaw
set_option linter.unusedSimpArgs false
set_option linter.unusedVariables false
namespace Go.Proofs.YtlebikmiophghaaDoor
open Go.RowKit Go.Lib Go.Shelf Go.Sort

/-- The table of powers of ten stands. -/
def PowT (w : World) : Prop := Lib.TabIs Tryd.prog w "internal/strconv.uint64pow10" .u64 Lib.pow10Tab
theorem PowT.below {w w' : World} (h : PowT w) (hb : Below w.heap.size w w') : PowT w' := by
  unfold PowT Lib.TabIs World.var? at h ⊢
  cases hg : Tryd.prog.globalNamed "internal/strconv.uint64pow10" with
  | none => rw [hg] at h; cases h
  | some g =>
    rw [hg] at h
    rw [Option.bind_some] at h ⊢
    have hlt : g < w.heap.size := by
      rcases Nat.lt_or_ge g w.heap.size with h' | h'
      · exact h'
      · rw [Array.getElem?_eq_none h'] at h; cases h
    rw [hb.block g hlt]
    exact h

def nameL (k : Nat) : List UInt8 := ([[], [100, 111, 99], [113, 117, 111, 116, 101], [108, 105, 115, 116], [105, 116, 101, 109], [112, 97, 114, 97], [104, 101, 97, 100], [114, 117, 108, 101], [99, 111, 100, 101], [104, 116, 109, 108], [116, 101, 120, 116], [115, 111, 102, 116], [104, 97, 114, 100], [115, 112, 97, 110], [101, 109], [115, 116, 114, 111, 110, 103], [108, 105, 110, 107], [105, 109, 97, 103, 101], [114, 97, 119]] : List (List UInt8))[k]!
def namesA : Array Value := #[.string ⟨#[]⟩, .string ⟨#[100, 111, 99]⟩, .string ⟨#[113, 117, 111, 116, 101]⟩, .string ⟨#[108, 105, 115, 116]⟩, .string ⟨#[105, 116, 101, 109]⟩, .string ⟨#[112, 97, 114, 97]⟩, .string ⟨#[104, 101, 97, 100]⟩, .string ⟨#[114, 117, 108, 101]⟩, .string ⟨#[99, 111, 100, 101]⟩, .string ⟨#[104, 116, 109, 108]⟩, .string ⟨#[116, 101, 120, 116]⟩, .string ⟨#[115, 111, 102, 116]⟩, .string ⟨#[104, 97, 114, 100]⟩, .string ⟨#[115, 112, 97, 110]⟩, .string ⟨#[101, 109]⟩, .string ⟨#[115, 116, 114, 111, 110, 103]⟩, .string ⟨#[108, 105, 110, 107]⟩, .string ⟨#[105, 109, 97, 103, 101]⟩, .string ⟨#[114, 97, 119]⟩]
theorem names_get (k : Nat) (h : k ≤ 18) : namesA[k]? = some (.string ⟨(nameL k).toArray⟩) := by
  have : k = 0 ∨ k = 1 ∨ k = 2 ∨ k = 3 ∨ k = 4 ∨ k = 5 ∨ k = 6 ∨ k = 7 ∨ k = 8 ∨ k = 9 ∨ k = 10 ∨ k = 11 ∨ k = 12 ∨ k = 13 ∨ k = 14 ∨ k = 15 ∨ k = 16 ∨ k = 17 ∨ k = 18 := by omega
  rcases this with rfl | rfl | rfl | rfl | rfl | rfl | rfl | rfl | rfl | rfl | rfl | rfl | rfl | rfl | rfl | rfl | rfl | rfl | rfl <;> rfl
theorem name_len (k : Nat) (h : k ≤ 18) : (nameL k).length ≤ 6 := by
  have : k = 0 ∨ k = 1 ∨ k = 2 ∨ k = 3 ∨ k = 4 ∨ k = 5 ∨ k = 6 ∨ k = 7 ∨ k = 8 ∨ k = 9 ∨ k = 10 ∨ k = 11 ∨ k = 12 ∨ k = 13 ∨ k = 14 ∨ k = 15 ∨ k = 16 ∨ k = 17 ∨ k = 18 := by omega
  rcases this with rfl | rfl | rfl | rfl | rfl | rfl | rfl | rfl | rfl | rfl | rfl | rfl | rfl | rfl | rfl | rfl | rfl | rfl | rfl <;> decide
def levelL (n : Int) : List UInt8 := if n = 0 then [] else [32, 35] ++ Lib.itoa n
def tightL (b : Bool) : List UInt8 := if b then [32, 116, 105, 103, 104, 116] else []
def partL (c : UInt8) (s : ByteArray) : List UInt8 := if s.size = 0 then [] else [32, c] ++ ([34] ++ quoteL s.data.toList ++ [34])
def lineL (x : NodeP) : List UInt8 := nameL x.kind.toNat ++ levelL x.level ++ tightL x.tight ++ partL 116 x.text ++ partL 108 x.link ++ partL 104 x.title
theorem quoteL_len : ∀ l : List UInt8, (quoteL l).length ≤ 3 * l.length
  | [] => Nat.le_refl _
  | c :: t => by
    have h1 := quoteL_len t
    have h2 := quoteB_len c
    show (quoteB c ++ quoteL t).length ≤ _
    rw [List.length_append, List.length_cons]
    omega
theorem partL_len (c : UInt8) (s : ByteArray) : (partL c s).length ≤ 3 * s.size + 4 := by
  unfold partL
  split
  · simp
  · have := quoteL_len s.data.toList
    have e : s.data.toList.length = s.size := by simp
    simp only [List.length_append, List.length_cons, List.length_nil]
    omega
theorem levelL_len (n : Int) (h0 : -9223372036854775808 ≤ n) (h1 : n ≤ 9223372036854775807) : (levelL n).length ≤ 23 := by
  unfold levelL
  split
  · simp
  · have := Lib.itoa_length_le n h0 h1
    simp; omega
theorem bytes_cat (a b : List UInt8) : ((⟨a.toArray⟩ : ByteArray) ++ (⟨b.toArray⟩ : ByteArray)) = ⟨(a ++ b).toArray⟩ := by
  apply ByteArray.ext
  simp [ByteArray.data_append]
theorem bytes_cat3 (a b c : List UInt8) : (⟨(a ++ (b ++ c)).toArray⟩ : ByteArray) = (⟨a.toArray⟩ : ByteArray) ++ ((⟨b.toArray⟩ : ByteArray) ++ (⟨c.toArray⟩ : ByteArray)) := by
  rw [bytes_cat, bytes_cat]
theorem bytes_size (a : List UInt8) : (⟨a.toArray⟩ : ByteArray).size = a.length := rfl
theorem grow_below {w : World} (k : Nat) (os : Array Obj) : Below w.heap.size w (grow (w.drewN k) os) := by
  refine ⟨rfl, rfl, rfl, by simp [grow, World.drewN], fun i hi => ?_⟩
  show (w.heap ++ os)[i]? = w.heap[i]?
  rw [Array.getElem?_append_left hi]
theorem itoa_any (n : Int) (h0 : -9223372036854775808 ≤ n) (h1 : n ≤ 9223372036854775807) (w : World) (hT : PowT w) :
    Calls Tryd.prog 60 #[.int .i64 n] w fun e w' => e = .returned (.string ⟨(Lib.itoa n).toArray⟩) ∧ Below w.heap.size w w' :=
  (Tryd.strconv_Itoa n h0 h1 w hT).mono fun e w' ⟨h, k, os, hw⟩ => ⟨h, hw ▸ grow_below k os⟩

def limN (j : Nat) : Nat := 40 + j * 3000004
theorem limN_step {a b j : Nat} (h : a ≤ limN j) (hb : b ≤ 3000004) : a + b ≤ limN (j + 1) := by unfold limN at *; omega
theorem limN_le {a j : Nat} (h : a ≤ limN j) (hj : j ≤ 3) : a ≤ 10000000 := by unfold limN at h; omega
theorem limN_zero {a : Nat} (h : a ≤ 40) : a ≤ limN 0 := by unfold limN; omega
theorem bytes_catP (a q : List UInt8) (c : UInt8) : (⟨(a ++ ([32, c] ++ q)).toArray⟩ : ByteArray) = (⟨a.toArray⟩ : ByteArray) ++ (((⟨#[32]⟩ : ByteArray) ++ (⟨#[c]⟩ : ByteArray)) ++ (⟨q.toArray⟩ : ByteArray)) := by
  apply ByteArray.ext
  simp [ByteArray.data_append]

set_option maxHeartbeats 8000000 in
set_option maxRecDepth 100000 in
theorem line_any (x : NodeP) (ka pa : Option Addr) (kc pc : Nat) (k : Nat) (hk : k ≤ 18) (hkx : x.kind = (k : Int)) (ht : x.text.size ≤ 1000000) (hl : x.link.size ≤ 1000000) (hi : x.title.size ≤ 1000000) (hv0 : -9223372036854775808 ≤ x.level) (hv1 : x.level ≤ 9223372036854775807) (w : World) (hT : PowT w) :
    Calls Tryd.prog 40 #[.agg #[.int .i64 x.kind, .int .i64 x.fr, .int .i64 x.to, .int .i64 x.level, .string x.text, .string x.link, .string x.title, .bool x.tight, .slice ka x.kids.length kc, .slice pa x.pieces.length pc], .bool false] w fun e w' => e = .returned (.string ⟨(lineL x).toArray⟩) ∧ Below w.heap.size w w' := by
  have HLN : RowKit.Hid (lineL x = nameL k ++ levelL x.level ++ tightL x.tight ++ partL 116 x.text ++ partL 108 x.link ++ partL 104 x.title) := by show _ = _; unfold lineL; rw [hkx]; rfl
  have l1 := name_len k hk
  have l2 := levelL_len x.level hv0 hv1
  have l4 := partL_len 116 x.text
  have l5 := partL_len 108 x.link
  have l6 := partL_len 104 x.title
  have hng := names_get k hk
  unfold namesA at hng
  rw [hkx]
  clear hkx
  go_enter Tryd.func40, Tryd.ntmps40
  go_upto_region 2 with fail
  have HBX := heap_alloc_new w (.cells #[.int .i64 k, .int .i64 x.fr, .int .i64 x.to, .int .i64 x.level, .string x.text, .string x.link, .string x.title, .bool x.tight, .slice ka x.kids.length kc, .slice pa x.pieces.length pc] 33)
  have hB1 : Below w.heap.size w (w.alloc (.cells #[.int .i64 k, .int .i64 x.fr, .int .i64 x.to, .int .i64 x.level, .string x.text, .string x.link, .string x.title, .bool x.tight, .slice ka x.kids.length kc, .slice pa x.pieces.length pc] 33)) := (Below.refl _ w).alloc (Nat.le_refl _) _
  have hS1 : (w.alloc (.cells #[.int .i64 k, .int .i64 x.fr, .int .i64 x.to, .int .i64 x.level, .string x.text, .string x.link, .string x.title, .bool x.tight, .slice ka x.kids.length kc, .slice pa x.pieces.length pc] 33)).heap.size = w.heap.size + 1 := by simp
  generalize w.alloc (.cells #[.int .i64 k, .int .i64 x.fr, .int .i64 x.to, .int .i64 x.level, .string x.text, .string x.link, .string x.title, .bool x.tight, .slice ka x.kids.length kc, .slice pa x.pieces.length pc] 33) = w1 at *
  have HNB := heap_alloc_new w1 (.cells namesA 9)
  have hB2 : Below w1.heap.size w1 (w1.alloc (.cells namesA 9)) := (Below.refl _ w1).alloc (Nat.le_refl _) _
  have hS2 : (w1.alloc (.cells namesA 9)).heap.size = w1.heap.size + 1 := by simp
  unfold namesA at HNB hB2 hS2
  rw [hS1] at HNB
  generalize w1.alloc (.cells #[.string ⟨#[]⟩, .string ⟨#[100, 111, 99]⟩, .string ⟨#[113, 117, 111, 116, 101]⟩, .string ⟨#[108, 105, 115, 116]⟩, .string ⟨#[105, 116, 101, 109]⟩, .string ⟨#[112, 97, 114, 97]⟩, .string ⟨#[104, 101, 97, 100]⟩, .string ⟨#[114, 117, 108, 101]⟩, .string ⟨#[99, 111, 100, 101]⟩, .string ⟨#[104, 116, 109, 108]⟩, .string ⟨#[116, 101, 120, 116]⟩, .string ⟨#[115, 111, 102, 116]⟩, .string ⟨#[104, 97, 114, 100]⟩, .string ⟨#[115, 112, 97, 110]⟩, .string ⟨#[101, 109]⟩, .string ⟨#[115, 116, 114, 111, 110, 103]⟩, .string ⟨#[108, 105, 110, 107]⟩, .string ⟨#[105, 109, 97, 103, 101]⟩, .string ⟨#[114, 97, 119]⟩] 9) = W at *
  have HB : RowKit.Hid (Below w.heap.size w W) := hB1.trans (hB2.mono hB1.size)
  have HTW : RowKit.Hid (PowT W) := hT.below HB.out
  have HBW : RowKit.Hid (W.heap[w.heap.size]? = some (.cells #[.int .i64 k, .int .i64 x.fr, .int .i64 x.to, .int .i64 x.level, .string x.text, .string x.link, .string x.title, .bool x.tight, .slice ka x.kids.length kc, .slice pa x.pieces.length pc] 33)) := (hB2.block _ (by omega)).trans HBX
  have HSZ : RowKit.Hid (w.heap.size + 2 ≤ W.heap.size) := by show w.heap.size + 2 ≤ W.heap.size; omega
  have hnm : W.cell? ⟨w.heap.size + 1, k, none⟩ = some (.string ⟨(nameL k).toArray⟩) := by
    simp only [World.cell?, HNB]; exact hng
  obtain ⟨c0, -, -, c3, -, -, -, c7, -, -⟩ := cells_ten HBW.out
  have hk19 : (k : Int) < 19 := by omega
  clear HBX hB1 hS1 HNB hB2 hS2 hng hT
  go_upto_if 29 with fail
  have z1 : (⟨(nameL k).toArray⟩ : ByteArray).size ≤ 6 := l1
  have z2 : (⟨(Lib.itoa x.level).toArray⟩ : ByteArray).size ≤ 21 := Lib.itoa_length_le x.level hv0 hv1
  have l3 : (Lib.itoa x.level).length ≤ 21 := Lib.itoa_length_le x.level hv0 hv1
  go_cut [6] from 27 (fun v wx => v = .string ⟨(nameL k ++ levelL x.level).toArray⟩ ∧ Below W.heap.size W wx)
  case first =>
    by_cases hlv : x.level = 0
    · have HE : RowKit.Hid (nameL k ++ levelL x.level = nameL k) := by show _ = _; unfold levelL; rw [if_pos hlv, List.append_nil]
      have hlb : (x.level != 0) = false := by rw [hlv]; rfl
      clear hlv
      go_wp2_with fail
      go_meet
      case rel => exact ⟨by rw [HE.out], Below.refl _ _⟩
    · have HE : RowKit.Hid (nameL k ++ levelL x.level = nameL k ++ ([32, 35] ++ Lib.itoa x.level)) := by show _ = _; unfold levelL; rw [if_neg hlv]
      have hlb : (x.level != 0) = true := by rw [bne_iff_ne]; exact hlv
      clear hlv
      go_wp2_with (go_at_call 60; refine (itoa_any x.level hv0 hv1 _ HTW.out).mono ?_; rintro e w2 ⟨rfl, b2⟩)
      go_meet
      case rel => exact ⟨by rw [HE.out, bytes_cat3], b2⟩
  case rest =>
    obtain ⟨rfl, hb3⟩ := hcut
    have HB3 := Lib.hid hb3
    obtain ⟨-, -, -, -, -, -, -, c7, -, -⟩ := cells_ten ((hb3.block _ (by have := HSZ.out; omega)).trans HBW.out)
    have lL : (nameL k ++ levelL x.level).length ≤ 29 := by rw [List.length_append]; omega
    have HL4 : RowKit.Hid (lineL x = (nameL k ++ levelL x.level) ++ tightL x.tight ++ partL 116 x.text ++ partL 108 x.link ++ partL 104 x.title) := HLN.out
    clear hb3 HLN c0 c3 hnm l1 l2 z1 z2
    generalize nameL k ++ levelL x.level = L1 at *
    have z1 : (⟨L1.toArray⟩ : ByteArray).size ≤ 29 := lL
    go_upto_if 37 with fail
    go_cut [6] from 36 (fun v wx => v = .string ⟨(L1 ++ tightL x.tight).toArray⟩ ∧ wx = wc)
    case first =>
      generalize x.tight = tg at *
      cases tg
      · have HE : RowKit.Hid (L1 ++ tightL false = L1) := List.append_nil _
        go_wp2_with fail
        go_meet
        case rel => exact ⟨by rw [HE.out], rfl⟩
      · have HE : RowKit.Hid (L1 ++ tightL true = L1 ++ [32, 116, 105, 103, 104, 116]) := rfl
        go_wp2_with fail
        go_meet
        case rel => exact ⟨by rw [HE.out, ← bytes_cat], rfl⟩
    case rest =>
      obtain ⟨rfl, rfl⟩ := hcut
      rename World => w5
      obtain ⟨-, -, -, -, c4, c5, c6, -, -, -⟩ := cells_ten ((HB3.out.block _ (by have := HSZ.out; omega)).trans HBW.out)
      have hT5 : (tightL x.tight).length ≤ 6 := by unfold tightL; split <;> simp
      have lL2 : (L1 ++ tightL x.tight).length ≤ 40 := by rw [List.length_append]; omega
      generalize L1 ++ tightL x.tight = L3 at *
      have HL5 : RowKit.Hid (L3 ++ ([(116, x.text), (108, x.link), (104, x.title)] : List (UInt8 × ByteArray)).flatMap (fun p => partL p.1 p.2) = lineL x) := by
        show _ = _
        rw [HL4.out]; simp
      have HNB := heap_alloc_new w5 (.cells #[.string ⟨#[116]⟩, .string x.text, .string ⟨#[108]⟩, .string x.link, .string ⟨#[104]⟩, .string x.title] 97)
      have hA5 : Below w5.heap.size w5 (w5.alloc (.cells #[.string ⟨#[116]⟩, .string x.text, .string ⟨#[108]⟩, .string x.link, .string ⟨#[104]⟩, .string x.title] 97)) := (Below.refl _ w5).alloc (Nat.le_refl _) _
      have HB6 := Lib.hid (HB.out.trans ((HB3.out.trans (hA5.mono HB3.out.size)).mono HB.out.size))
      clear HL4 hA5
      have HPC : RowKit.Hid (∀ X, Below (w5.heap.size + 1) (w5.alloc (.cells #[.string ⟨#[116]⟩, .string x.text, .string ⟨#[108]⟩, .string x.link, .string ⟨#[104]⟩, .string x.title] 97)) X → ∀ j, j < 3 → ∃ (c : UInt8) (s : ByteArray), X.cell? ⟨w5.heap.size, j * 2, none⟩ = some (.string ⟨#[c]⟩) ∧ X.cell? ⟨w5.heap.size, j * 2 + 1, none⟩ = some (.string s) ∧ s.size ≤ 1000000 ∧ (([(116, x.text), (108, x.link), (104, x.title)] : List (UInt8 × ByteArray)).drop j).flatMap (fun p => partL p.1 p.2) = partL c s ++ (([(116, x.text), (108, x.link), (104, x.title)] : List (UInt8 × ByteArray)).drop (j + 1)).flatMap (fun p => partL p.1 p.2)) := fun X h j hj => by
        have hX := (h.block w5.heap.size (Nat.lt_succ_self _)).trans HNB
        have hc : ∀ i v, ([.string ⟨#[116]⟩, .string x.text, .string ⟨#[108]⟩, .string x.link, .string ⟨#[104]⟩, .string x.title] : List Value)[i]? = some v → X.cell? ⟨w5.heap.size, i, none⟩ = some v := fun i v hv => by
          simp only [World.cell?, hX]; simpa using hv
        have : j = 0 ∨ j = 1 ∨ j = 2 := by omega
        rcases this with rfl | rfl | rfl
        · exact ⟨116, x.text, hc 0 _ rfl, hc 1 _ rfl, ht, rfl⟩
        · exact ⟨108, x.link, hc 2 _ rfl, hc 3 _ rfl, hl, rfl⟩
        · exact ⟨104, x.title, hc 4 _ rfl, hc 5 _ rfl, hi, rfl⟩
      have HL6 : RowKit.Hid (∀ j, j = 3 → (([(116, x.text), (108, x.link), (104, x.title)] : List (UInt8 × ByteArray)).drop j).flatMap (fun p => partL p.1 p.2) = []) := fun j h => by subst h; rfl
      have hs6 : (w5.alloc (.cells #[.string ⟨#[116]⟩, .string x.text, .string ⟨#[108]⟩, .string x.link, .string ⟨#[104]⟩, .string x.title] 97)).heap.size = w5.heap.size + 1 := by simp
      have HS6 := Lib.hid hs6
      clear hs6 HNB
      generalize hps : ([(116, x.text), (108, x.link), (104, x.title)] : List (UInt8 × ByteArray)) = ps at *
      clear hps
      go_wp2_with fail
      generalize w5.alloc (.cells #[.string ⟨#[116]⟩, .string x.text, .string ⟨#[108]⟩, .string x.link, .string ⟨#[104]⟩, .string x.title] 97) = w6 at *
      clear c4 c5 c6
      go_loopw [6, 8, 51] (fun v _ iv wr => ∃ (j : Nat) (acc : List UInt8), j ≤ 3 ∧ iv = .int .i64 j ∧ v = .string ⟨acc.toArray⟩ ∧ Below w6.heap.size w6 wr ∧ RowKit.Hid (acc ++ (ps.drop j).flatMap (fun p => partL p.1 p.2) = lineL x) ∧ RowKit.Hid (acc.length ≤ limN j)) (fun _ _ iv _ => 3 - (RowKit.intOf iv).toNat)
      case atStart => exact ⟨0, L3, by omega, rfl, rfl, Below.refl _ _, HL5.out, limN_zero lL2⟩
      case round =>
        obtain ⟨j, acc, hj, rfl, rfl, hb, HA, hal⟩ := hrel
        have hal2 : acc.length ≤ 10000000 := limN_le hal.out hj
        by_cases hj3 : j < 3
        · have hj3' : (j : Int) < 3 := by omega
          obtain ⟨c, s, k0, k1, hss, hfm⟩ := HPC.out wr (hb.mono (by rw [HS6.out]; exact Nat.le_refl _)) j hj3
          have HFM := Lib.hid hfm
          clear hfm
          have hbN : ∀ (o : Obj), Below w6.heap.size w6 (wr.alloc o) := fun o => hb.alloc hb.size o
          have HBN := Lib.hid hbN
          have HBB := Lib.hid hb
          clear hbN hb
          by_cases hz : s.size = 0
          · obtain rfl : s = ⟨#[]⟩ := ByteArray.ext (Array.eq_empty_of_size_eq_zero hz)
            have HP0 : RowKit.Hid (partL c ⟨#[]⟩ = []) := rfl
            clear hz
            go_wp2_with fail
            go_roundw
            case rel => exact ⟨j + 1, acc, by omega, by go_num, rfl, HBN.out _, (by show _ = _; rw [← HA.out, HFM.out, HP0.out, List.nil_append]), limN_step (b := 0) hal.out (Nat.zero_le _)⟩
            case measure => simp [RowKit.intOf]; omega
          · have hne : s.toList.isEmpty = false := by rw [emptyL, beq_eq_false_iff_ne]; exact hz
            have HP1 : RowKit.Hid (partL c s = [32, c] ++ ([34] ++ quoteL s.data.toList ++ [34])) := by show _ = _; unfold partL; rw [if_neg hz]
            have lq : ([34] ++ quoteL s.data.toList ++ [34]).length ≤ 3000002 := by
              have := quoteL_len s.data.toList
              have e : s.data.toList.length = s.size := by simp
              simp only [List.length_append, List.length_cons, List.length_nil]
              omega
            have hQ := fun X => quoted_any s X (by omega)
            generalize [34] ++ quoteL s.data.toList ++ [34] = ql at *
            have HQ := Lib.hid hQ
            have HXN := heap_alloc_new wr (.cells #[.string ⟨#[c]⟩, .string s] 97)
            have HXB : Below wr.heap.size wr (wr.alloc (.cells #[.string ⟨#[c]⟩, .string s] 97)) := (Below.refl _ wr).alloc (Nat.le_refl _) _
            have HXZ : RowKit.Hid ((wr.alloc (.cells #[.string ⟨#[c]⟩, .string s] 97)).heap.size = wr.heap.size + 1) := by show _ = _; simp
            have HXC : RowKit.Hid (∀ X, Below (wr.alloc (.cells #[.string ⟨#[c]⟩, .string s] 97)).heap.size (wr.alloc (.cells #[.string ⟨#[c]⟩, .string s] 97)) X → X.cell? ⟨wr.heap.size, 0, none⟩ = some (.string ⟨#[c]⟩) ∧ X.cell? ⟨wr.heap.size, 1, none⟩ = some (.string s)) := fun X h => by
              have := (h.block wr.heap.size (by rw [HXZ.out]; exact Nat.lt_succ_self _)).trans HXN
              simp [World.cell?, this]
            have hbx := HBN.out (.cells #[.string ⟨#[c]⟩, .string s] 97)
            have HBX2 := Lib.hid hbx
            obtain ⟨g0, g1⟩ := HXC.out _ (Below.refl _ _)
            clear hQ HXN HXB hbx hz
            go_wp2_with fail
            generalize wr.alloc (.cells #[.string ⟨#[c]⟩, .string s] 97) = w7 at *
            clear k0 k1
            have hW7 : Below w7.heap.size w7 w7.drew := (Below.refl _ w7).drew
            go_region_held (fun w' => w'.cell? ⟨wr.heap.size, 0, none⟩ = some (.string ⟨#[c]⟩) ∧ w'.cell? ⟨wr.heap.size, 1, none⟩ = some (.string s))
              (first | with_reducible exact HXC.out _ hB8 | with_reducible exact HXC.out _ hW7)
              ((go_at_call 61; (with_reducible refine (HQ.out _).mono ?_); rintro e w8 ⟨rfl, b8⟩; have hB8 := hW7.trans (b8.mono hW7.size)))
            all_goals
              go_wp2_with fail
              go_roundw
              case rel => exact ⟨j + 1, acc ++ partL c s, by omega, by go_num, by rw [HP1.out, bytes_catP], HBX2.out.trans (hB8.mono HBX2.out.size), (by show _ = _; rw [← HA.out, HFM.out, List.append_assoc]), (by show _ ≤ _; rw [List.length_append]; exact limN_step hal.out (by rw [HP1.out, List.length_append]; simp only [List.length_cons, List.length_nil]; omega))⟩
              case measure => simp [RowKit.intOf]; omega
        · obtain rfl : j = 3 := by omega
          have HE : RowKit.Hid (lineL x = acc) := by show _ = _; rw [← HA.out, HL6.out 3 rfl, List.append_nil]
          go_wp2_with fail
          go_ret
          exact ⟨by rw [HE.out]; rfl, HB6.out.trans (hb.mono HB6.out.size)⟩
end Go.Proofs.YtlebikmiophghaaDoor
