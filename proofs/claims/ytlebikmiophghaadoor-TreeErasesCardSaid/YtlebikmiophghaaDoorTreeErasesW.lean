/-
  What TreeErases asks: Erase, the reference's Erase, SameTree and Show at a tree and at the erased one. Conditions: bounds on sizes; the table of powers of ten.
-/
import Derived.Test.YtlebikmiophghaaDoorTreeRefErase
import Derived.Test.YtlebikmiophghaaDoorTreeSameT
import Derived.Test.YtlebikmiophghaaDoorTreePartsWalk
set_option linter.unusedSimpArgs false
set_option linter.unusedVariables false
namespace Go.Proofs.YtlebikmiophghaaDoor
open Go.Shelf Go.RowKit Go.Lib

theorem erase_tree (a : Option Addr) (cap : Nat) (l : List NodeP) (hl : l.length ≤ 100000) (hk : ∀ x ∈ l, x.kids.length ≤ 100000) (w : World) (hI : NodesIn w.heap.size w (.slice a l.length cap) l) :
    Calls Tryd.prog 31 #[.agg #[.slice a l.length cap]] w fun e w' => (∃ a' c', e = .returned (.agg #[.slice a' l.length c']) ∧ NodesIn w'.heap.size w' (.slice a' l.length c') (l.map eraseN)) ∧ Below w.heap.size w w' := by
  refine (erase_any a cap l hl hk w hI).mono ?_
  rintro e w' ⟨⟨v, rs, rfl, hT, hM⟩, b⟩
  have hn := hT.nodes
  rw [hM] at hn
  obtain ⟨a', c', rfl, -⟩ := id hn
  rw [List.length_map] at hn ⊢
  exact ⟨⟨a', c', rfl, hn⟩, b⟩
theorem same_erased (a b : Option Addr) (c1 c2 : Nat) (l : List NodeP) (hl : l.length ≤ 1000000) (hk : ∀ x ∈ l, x.kids.length ≤ 1000000) (w : World) (h1 : NodesIn w.heap.size w (.slice a l.length c1) (l.map eraseN)) (h2 : NodesIn w.heap.size w (.slice b l.length c2) (l.map eraseN)) :
    Calls Tryd.prog 32 #[.agg #[.slice a l.length c1], .agg #[.slice b l.length c2], .bool true] w fun e w' => e = .returned (.bool true) ∧ Below w.heap.size w w' := by
  have := sameTree_tree a b c1 c2 (l.map eraseN) (by rw [List.length_map]; exact hl) (fun x hx => by
    obtain ⟨y, hy, rfl⟩ := List.mem_map.1 hx
    exact ⟨hk y hy, Nat.zero_le _⟩) w (by rw [List.length_map]; exact h1) (by rw [List.length_map]; exact h2)
  rw [List.length_map] at this
  exact this
theorem show_erased (a : Option Addr) (cap : Nat) (l : List NodeP) (up : List Int) (hs : parentsP l = some up) (hl : l.length ≤ 100000) (hok : ∀ x ∈ l, NodeOk x) (hsm : ∀ x ∈ l, SmallN x) (w : World) (hT : PowT w) (hI : NodesIn w.heap.size w (.slice a l.length cap) (l.map eraseN)) :
    Calls Tryd.prog 17 #[.agg #[.slice a l.length cap], .bool false] w fun e w' => e = .returned (.tuple #[.string ⟨(showL l up).toArray⟩, .int .i64 0]) ∧ Below w.heap.size w w' := by
  have := show_some a cap (l.map eraseN) up (erase_right hs) (by rw [List.length_map]; exact hl) (fun x hx => by
    obtain ⟨y, hy, rfl⟩ := List.mem_map.1 hx
    have h := hok y hy
    exact ⟨h.text, h.link, h.title, h.kids, by show 0 * 16 ≤ _; omega, h.level, by show -9223372036854775808 ≤ (0 : Int) ∧ (0 : Int) ≤ 9223372036854775807; omega⟩) (fun x hx => by
    obtain ⟨y, hy, rfl⟩ := List.mem_map.1 hx
    have h := hsm y hy
    exact ⟨h.text, h.link, h.title, h.lv0, h.lv1⟩) w hT (by rw [List.length_map]; exact hI)
  rw [List.length_map, showL_erase] at this
  exact this

/-- Three boxes: the tree that came in, the own copy, the erased one. -/
structure EraseX (w X : World) (b1 b3 b4 : Nat) (a a3 a4 : Option Addr) (c c3 c4 : Nat) (l : List NodeP) : Prop where
  n1 : NodesIn X.heap.size X (.slice a l.length c) l
  n3 : NodesIn X.heap.size X (.slice a3 l.length c3) l
  n4 : NodesIn X.heap.size X (.slice a4 l.length c4) (l.map eraseN)
  box1 : X.cell? ⟨b1, 0, none⟩ = some (.slice a l.length c)
  box3 : X.cell? ⟨b3, 0, none⟩ = some (.slice a3 l.length c3)
  box4 : X.cell? ⟨b4, 0, none⟩ = some (.slice a4 l.length c4)
  lt1 : b1 < X.heap.size
  lt3 : b3 < X.heap.size
  lt4 : b4 < X.heap.size
  below : Below w.heap.size w X
  pow : PowT X
theorem EraseX.later {w X Y : World} {b1 b3 b4 : Nat} {a a3 a4 : Option Addr} {c c3 c4 : Nat} {l : List NodeP} (h : EraseX w X b1 b3 b4 a a3 a4 c c3 c4 l) (hb : Below X.heap.size X Y) : EraseX w Y b1 b3 b4 a a3 a4 c c3 c4 l :=
  ⟨h.n1.later hb, h.n3.later hb, h.n4.later hb, (hb.cell (p := ⟨b1, 0, none⟩) h.lt1).trans h.box1, (hb.cell (p := ⟨b3, 0, none⟩) h.lt3).trans h.box3, (hb.cell (p := ⟨b4, 0, none⟩) h.lt4).trans h.box4, Nat.lt_of_lt_of_le h.lt1 hb.size, Nat.lt_of_lt_of_le h.lt3 hb.size, Nat.lt_of_lt_of_le h.lt4 hb.size, h.below.trans (hb.mono h.below.size), h.pow.below hb⟩
end Go.Proofs.YtlebikmiophghaaDoor
