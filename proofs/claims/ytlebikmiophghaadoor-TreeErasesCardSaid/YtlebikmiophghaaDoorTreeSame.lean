/-
  SamePieces at two rows that hold the same pieces. Conditions: none.
-/
import Derived.Test.YtlebikmiophghaaDoorTreeAlive
set_option linter.unusedSimpArgs false
set_option linter.unusedVariables false
namespace Go.Proofs.YtlebikmiophghaaDoor
open Go.Shelf Go.RowKit Go.Lib

theorem PiecesIn.at' {n : Nat} {w : World} {a : Option Addr} {m cap : Nat} {l : List PieceP} (h : PiecesIn n w (.slice a m cap) l) {k : Nat} (hk : k < l.length) : ∃ g off, a = some ⟨g, off, none⟩ ∧ g < n ∧ m = l.length ∧ ∀ j (h : j < l.length), PieceAt w g (off + j * 2) l[j] := by
  obtain ⟨a', cap', hv, hr⟩ := h
  injection hv with h1 h2 h3
  obtain ⟨g, off, e, hg, hc⟩ := hr (by intro e; subst e; simp at hk)
  exact ⟨g, off, h1.trans e, hg, h2, hc⟩

set_option maxHeartbeats 2000000 in
set_option maxRecDepth 100000 in
theorem samePieces_tree (a1 a2 : Option Addr) (c1 c2 : Nat) (l : List PieceP) (hl : l.length ≤ 1000000) (w : World) (h1 : PiecesIn w.heap.size w (.slice a1 l.length c1) l) (h2 : PiecesIn w.heap.size w (.slice a2 l.length c2) l) :
    Calls Tryd.prog 68 #[.slice a1 l.length c1, .slice a2 l.length c2] w fun e w' => e = .returned (.bool true) ∧ ∃ q, w' = w.drewN q := by
  have H1 := Lib.hid h1
  have H2 := Lib.hid h2
  have mixed : Tryd.prog.follows Departure.mixedOrders = true := rfl
  clear h1 h2
  go_enter Tryd.func68, Tryd.ntmps68
  go_wp2
  go_loopw [5] (fun iv wr => ∃ k q : Nat, k ≤ l.length ∧ iv = .int .i64 k ∧ wr = w.drewN q) (fun iv _ => l.length - (RowKit.intOf iv).toNat)
  case atStart => exact ⟨0, 0, Nat.zero_le _, rfl, rfl⟩
  case round =>
    obtain ⟨k, q, hk, rfl, rfl⟩ := hrel
    by_cases hlt : k < l.length
    · have hlt' : (k : Int) < (l.length : Int) := by omega
      obtain ⟨g, off, rfl, hg, -, hc⟩ := H1.out.at' hlt
      obtain ⟨g2, off2, rfl, hg2, -, hc2⟩ := H2.out.at' hlt
      obtain ⟨c0, c3⟩ := hc k hlt
      obtain ⟨d0, d3⟩ := hc2 k hlt
      clear hc hc2
      generalize l[k] = e at *
      obtain ⟨ef, et⟩ := e
      simp only at c0 c3 d0 d3
      go_wp2_with fail
      go_quiet (fail)
      go_wp2_with fail
      go_roundw
      case rel => exact ⟨k + 1, q + nq, by omega, by go_num, rfl⟩
      case measure => simp [RowKit.intOf]; omega
    · obtain rfl : k = l.length := by omega
      go_wp2
      go_ret
      exact ⟨rfl, q, rfl⟩
set_option maxHeartbeats 4000000 in
set_option maxRecDepth 100000 in
theorem sameNode_tree (x : NodeP) (ka kb pa pb : Option Addr) (c1 c2 c3 c4 : Nat) (hk : x.kids.length ≤ 1000000) (hp : x.pieces.length ≤ 1000000) (w : World) (h1 : IntsIn w.heap.size w (.slice ka x.kids.length c1) x.kids) (h2 : IntsIn w.heap.size w (.slice kb x.kids.length c3) x.kids) (h3 : PiecesIn w.heap.size w (.slice pa x.pieces.length c2) x.pieces) (h4 : PiecesIn w.heap.size w (.slice pb x.pieces.length c4) x.pieces) :
    Calls Tryd.prog 52 #[.agg #[.int .i64 x.kind, .int .i64 x.fr, .int .i64 x.to, .int .i64 x.level, .string x.text, .string x.link, .string x.title, .bool x.tight, .slice ka x.kids.length c1, .slice pa x.pieces.length c2], .agg #[.int .i64 x.kind, .int .i64 x.fr, .int .i64 x.to, .int .i64 x.level, .string x.text, .string x.link, .string x.title, .bool x.tight, .slice kb x.kids.length c3, .slice pb x.pieces.length c4], .bool true] w fun e w' => e = .returned (.bool true) ∧ Below w.heap.size w w' := by
  have hB1 : Below w.heap.size w (w.alloc (.cells #[.int .i64 x.kind, .int .i64 x.fr, .int .i64 x.to, .int .i64 x.level, .string x.text, .string x.link, .string x.title, .bool x.tight, .slice ka x.kids.length c1, .slice pa x.pieces.length c2] 33)) := (Below.refl _ w).alloc (Nat.le_refl _) _
  have hB2 : Below w.heap.size w ((w.alloc (.cells #[.int .i64 x.kind, .int .i64 x.fr, .int .i64 x.to, .int .i64 x.level, .string x.text, .string x.link, .string x.title, .bool x.tight, .slice ka x.kids.length c1, .slice pa x.pieces.length c2] 33)).alloc (.cells #[.int .i64 x.kind, .int .i64 x.fr, .int .i64 x.to, .int .i64 x.level, .string x.text, .string x.link, .string x.title, .bool x.tight, .slice kb x.kids.length c3, .slice pb x.pieces.length c4] 33)) := hB1.alloc hB1.size _
  have hA2 : Below (w.alloc (.cells #[.int .i64 x.kind, .int .i64 x.fr, .int .i64 x.to, .int .i64 x.level, .string x.text, .string x.link, .string x.title, .bool x.tight, .slice ka x.kids.length c1, .slice pa x.pieces.length c2] 33)).heap.size (w.alloc (.cells #[.int .i64 x.kind, .int .i64 x.fr, .int .i64 x.to, .int .i64 x.level, .string x.text, .string x.link, .string x.title, .bool x.tight, .slice ka x.kids.length c1, .slice pa x.pieces.length c2] 33)) ((w.alloc (.cells #[.int .i64 x.kind, .int .i64 x.fr, .int .i64 x.to, .int .i64 x.level, .string x.text, .string x.link, .string x.title, .bool x.tight, .slice ka x.kids.length c1, .slice pa x.pieces.length c2] 33)).alloc (.cells #[.int .i64 x.kind, .int .i64 x.fr, .int .i64 x.to, .int .i64 x.level, .string x.text, .string x.link, .string x.title, .bool x.tight, .slice kb x.kids.length c3, .slice pb x.pieces.length c4] 33)) := (Below.refl _ _).alloc (Nat.le_refl _) _
  have hN1 := (hA2.block w.heap.size (by simp)).trans (heap_alloc_new w (.cells #[.int .i64 x.kind, .int .i64 x.fr, .int .i64 x.to, .int .i64 x.level, .string x.text, .string x.link, .string x.title, .bool x.tight, .slice ka x.kids.length c1, .slice pa x.pieces.length c2] 33))
  have hN2 := heap_alloc_new (w.alloc (.cells #[.int .i64 x.kind, .int .i64 x.fr, .int .i64 x.to, .int .i64 x.level, .string x.text, .string x.link, .string x.title, .bool x.tight, .slice ka x.kids.length c1, .slice pa x.pieces.length c2] 33)) (.cells #[.int .i64 x.kind, .int .i64 x.fr, .int .i64 x.to, .int .i64 x.level, .string x.text, .string x.link, .string x.title, .bool x.tight, .slice kb x.kids.length c3, .slice pb x.pieces.length c4] 33)
  rw [show (w.alloc (.cells #[.int .i64 x.kind, .int .i64 x.fr, .int .i64 x.to, .int .i64 x.level, .string x.text, .string x.link, .string x.title, .bool x.tight, .slice ka x.kids.length c1, .slice pa x.pieces.length c2] 33)).heap.size = w.heap.size + 1 by simp] at hN2
  have HB2 := Lib.hid hB2
  have HP := Lib.hid (samePieces_tree pa pb c2 c4 x.pieces hp _ (h3.later hB2) (h4.later hB2))
  have hDW : ∀ q, Below w.heap.size w (((w.alloc (.cells #[.int .i64 x.kind, .int .i64 x.fr, .int .i64 x.to, .int .i64 x.level, .string x.text, .string x.link, .string x.title, .bool x.tight, .slice ka x.kids.length c1, .slice pa x.pieces.length c2] 33)).alloc (.cells #[.int .i64 x.kind, .int .i64 x.fr, .int .i64 x.to, .int .i64 x.level, .string x.text, .string x.link, .string x.title, .bool x.tight, .slice kb x.kids.length c3, .slice pb x.pieces.length c4] 33)).drewN q) := fun q => below_drewN hB2
  have HK := Lib.hid (fun q => sameInts_tree ka kb c1 c3 x.kids hk (((w.alloc (.cells #[.int .i64 x.kind, .int .i64 x.fr, .int .i64 x.to, .int .i64 x.level, .string x.text, .string x.link, .string x.title, .bool x.tight, .slice ka x.kids.length c1, .slice pa x.pieces.length c2] 33)).alloc (.cells #[.int .i64 x.kind, .int .i64 x.fr, .int .i64 x.to, .int .i64 x.level, .string x.text, .string x.link, .string x.title, .bool x.tight, .slice kb x.kids.length c3, .slice pb x.pieces.length c4] 33)).drewN q) (h1.later (hDW q)) (h2.later (hDW q)))
  obtain ⟨d0, d1, d2, d3, d4, d5, d6, d7, d8, d9⟩ := cells_ten hN1
  obtain ⟨e0, e1, e2, e3, e4, e5, e6, e7, e8, e9⟩ := cells_ten hN2
  clear hB1 hB2 hA2 hN1 hN2 h1 h2 h3 h4
  go_enter Tryd.func52, Tryd.ntmps52
  go_wp2_with fail
  refine HP.out.mono ?_
  rintro e w1 ⟨rfl, q, rfl⟩
  go_wp2_with fail
  refine (HK.out q).mono ?_
  rintro e w2 ⟨rfl, r, rfl⟩
  go_wp2_with fail
  go_ret
  first | exact ⟨rfl, below_drewN (below_drewN HB2.out)⟩ | exact ⟨rfl, below_drewN HB2.out⟩
end Go.Proofs.YtlebikmiophghaaDoor
