/-
  tree.Show: the text that it tells; what it holds in memory. Conditions: none.
-/
import Derived.Test.YtlebikmiophghaaDoorTreeLine
import Derived.Test.YtlebikmiophghaaDoorTreeParents
import Derived.Test.YtlebikmiophghaaDoorBuilderW
set_option linter.unusedSimpArgs false
set_option linter.unusedVariables false
namespace Go.Proofs.YtlebikmiophghaaDoor
open Go.Shelf Go.RowKit Go.Lib

/-- How deep each of the first i nodes is. -/
def deepP (up : List Int) : Nat → List Int
  | 0 => []
  | i + 1 => deepP up i ++ [if i = 0 then 0 else (deepP up i)[up[i]!.toNat]! + 1]
theorem deepP_len (up : List Int) : ∀ i, (deepP up i).length = i
  | 0 => rfl
  | i + 1 => by rw [deepP, List.length_append, deepP_len up i]; rfl
theorem deepP_at {up : List Int} {i j : Nat} (h : j < i) : (deepP up (i + 1))[j]! = (deepP up i)[j]! := by
  rw [getElem!_pos _ j (by rw [deepP_len]; omega), getElem!_pos _ j (by rw [deepP_len]; exact h)]
  simp only [deepP]
  rw [List.getElem_append_left (by rw [deepP_len]; exact h)]
theorem deepP_top (up : List Int) (i : Nat) : (deepP up (i + 1))[i]! = if i = 0 then 0 else (deepP up i)[up[i]!.toNat]! + 1 := by
  rw [getElem!_pos _ i (by rw [deepP_len]; omega)]
  simp only [deepP]
  rw [List.getElem_append_right (by rw [deepP_len]; exact Nat.le_refl _)]
  simp [deepP_len]
/-- The parents stand ahead. -/
def UpsOk (up : List Int) : Prop := ∀ j, 0 < j → j < up.length → 0 ≤ up[j]! ∧ up[j]! < (j : Int)
theorem deepP_le {up : List Int} (h : UpsOk up) : ∀ i, i ≤ up.length → ∀ j, j < i → 0 ≤ (deepP up i)[j]! ∧ (deepP up i)[j]! ≤ (j : Int)
  | 0, _, j, hj => by omega
  | i + 1, hi, j, hj => by
    rcases Nat.lt_or_ge j i with h1 | h1
    · rw [deepP_at h1]; exact deepP_le h i (by omega) j h1
    · obtain rfl : j = i := by omega
      rw [deepP_top]
      split
      · omega
      · rename_i h0
        obtain ⟨h2, h3⟩ := h j (by omega) (by omega)
        have := deepP_le h j (by omega) up[j]!.toNat (by omega)
        omega
theorem right_ups {t : List NodeP} {up : List Int} (h : RightT t up) : UpsOk up := fun j h0 hj => by
  obtain ⟨-, h2⟩ := parts_law h
  obtain ⟨p, h3, h4, -⟩ := h2 j h0 (by rw [← h.len]; exact hj)
  rw [h3]
  omega
/-- What the first i nodes tell. -/
def showT (l : List NodeP) (up : List Int) : Nat → List UInt8
  | 0 => []
  | i + 1 => showT l up i ++ (List.replicate (deepP up (i + 1))[i]!.toNat 32 ++ lineL l[i]! ++ [10])
def showL (l : List NodeP) (up : List Int) : List UInt8 := showT l up l.length
theorem lineL_erase (x : NodeP) : lineL (eraseN x) = lineL x := rfl
theorem showT_erase (l : List NodeP) (up : List Int) : ∀ i, i ≤ l.length → showT (l.map eraseN) up i = showT l up i
  | 0, _ => rfl
  | i + 1, h => by rw [showT, showT, showT_erase l up i (by omega), erase_get l (by omega), lineL_erase]
theorem showL_erase (l : List NodeP) (up : List Int) : showL (l.map eraseN) up = showL l up := by
  unfold showL
  rw [List.length_map, showT_erase l up _ (Nat.le_refl _)]
theorem tightL_len (b : Bool) : (tightL b).length ≤ 6 := by unfold tightL; split <;> simp
structure SmallN (x : NodeP) : Prop where
  text : x.text.size ≤ 1000000
  link : x.link.size ≤ 1000000
  title : x.title.size ≤ 1000000
  lv0 : -9223372036854775808 ≤ x.level
  lv1 : x.level ≤ 9223372036854775807
theorem lineL_len {x : NodeP} (h : SmallN x) (hk : x.kind.toNat ≤ 18) : (lineL x).length ≤ 10000000 := by
  have h1 := name_len _ hk
  have h2 := levelL_len x.level h.lv0 h.lv1
  have h3 := tightL_len x.tight
  have h4 := partL_len 116 x.text
  have h5 := partL_len 108 x.link
  have h6 := partL_len 104 x.title
  have h7 := h.text
  have h8 := h.link
  have h9 := h.title
  unfold lineL
  simp only [List.length_append]
  omega
def limS (i : Nat) : Nat := i * 20000000
theorem limS_step {a b i : Nat} (h : a ≤ limS i) (hb : b ≤ 20000000) : a + b ≤ limS (i + 1) := by unfold limS at *; omega
theorem limS_le {a i : Nat} (h : a ≤ limS i) (hi : i ≤ 100000) : a ≤ 2000000000000 := by unfold limS at h; omega

theorem ownsRowF_below {w w' : World} {base n size : Nat} {e : TypeId} {v : Value} {xs : List Value} (h : w.ownsRowF base e size v n xs) (hb : Below w.heap.size w w') : w'.ownsRowF base e size v n xs := by
  refine ⟨h.1, ?_⟩
  rcases h.2 with hn | ⟨g, cap, cur, fz, hv, hg, hh, rest⟩
  · exact .inl hn
  · have hlt := (Array.getElem?_eq_some_iff.1 hh).1
    exact .inr ⟨g, cap, cur, fz, hv, hg, (hb.block g hlt).trans hh, rest⟩
theorem isB_below {B b : Nat} {bs : List Value} {w w' : World} (h : IsB B b bs w) (hb : Below w.heap.size w w') : IsB B b bs w' := by
  rcases h with h | h
  · have hlt := h.lt
    obtain ⟨hB, v, hbk, hown, hne⟩ := h
    exact .inl ⟨hB, v, (hb.block b hlt).trans hbk, ownsRowF_below hown hb, hne⟩
  · have hlt := h.lt
    obtain ⟨hB, v, hbk, hown, hne⟩ := h
    exact .inr ⟨hB, v, (hb.block b hlt).trans hbk, ownsRowF_below hown hb, hne⟩
theorem ownsRow_low {w w' : World} {base n size b : Nat} {e : TypeId} {v : Value} {xs : List Value} (h : w.ownsRow base e size v n xs) (hv : ∀ g, v.ownBlock = some g → g < b) (hb : Below b w w') : w'.ownsRow base e size v n xs := by
  refine ⟨h.1, ?_⟩
  rcases h.2 with hn | ⟨g, cap, cur, hv', hg, hh, rest⟩
  · exact .inl hn
  · exact .inr ⟨g, cap, cur, hv', hg, (hb.block g (hv g (by rw [hv']; rfl))).trans hh, rest⟩

structure ShowW (w : World) (b n : Nat) (bx vu vd : Value) (up dl : List Int) (acc : List UInt8) (wr : World) : Prop where
  box : wr.heap[w.heap.size]? = some (.cells #[bx] 24)
  nb : w.heap.size < b
  ups : wr.ownsRow w.heap.size 3 1 vu up.length (intCells up)
  deep : wr.ownsRow w.heap.size 3 1 vd n (intCells dl)
  ul : ∀ g, vu.ownBlock = some g → g < b
  dlow : ∀ g, vd.ownBlock = some g → g < b
  ud : ApartV vd vu
  bld : IsB b b (Lib.byteCells acc) wr
  below : Below w.heap.size w wr
  lt : b < wr.heap.size
theorem ShowW.later {w : World} {b n : Nat} {bx vu vd : Value} {up dl : List Int} {acc : List UInt8} {wr w' : World} (h : ShowW w b n bx vu vd up dl acc wr) (hb : Below wr.heap.size wr w') : ShowW w b n bx vu vd up dl acc w' :=
  ⟨(hb.block _ (Array.getElem?_eq_some_iff.1 h.box).1).trans h.box, h.nb, ownsRow_below h.ups hb, ownsRow_below h.deep hb, h.ul, h.dlow, h.ud, isB_below h.bld hb, h.below.trans (hb.mono h.below.size), Nat.lt_of_lt_of_le h.lt hb.size⟩
/-- A text has been written. -/
theorem ShowW.write {w : World} {b n : Nat} {bx vu vd : Value} {up dl : List Int} {acc s : List UInt8} {wr w' : World} (h : ShowW w b n bx vu vd up dl acc wr) (hu : UsedB b b (Lib.byteCells acc ++ Lib.byteCells s) w') (hb : Below b wr w') : ShowW w b n bx vu vd up dl (acc ++ s) w' :=
  ⟨(hb.block _ h.nb).trans h.box, h.nb, ownsRow_low h.ups h.ul hb, ownsRow_low h.deep h.dlow hb, h.ul, h.dlow, h.ud, .inr (by rw [Lib.byteCells_append]; exact hu), h.below.trans (hb.mono (Nat.le_of_lt h.nb)), Nat.lt_of_lt_of_le h.lt hb.size⟩
theorem isB_set {b : Nat} {bs : List Value} {w : World} (h : IsB b b bs w) {g i : Nat} (hg : g < b) (v : Value) : IsB b b bs (w.setCell ⟨g, i, none⟩ v) := by
  have hown : ∀ {u : Value} {n : Nat} {xs : List Value}, w.ownsRowF b 5 1 u n xs → (w.setCell ⟨g, i, none⟩ v).ownsRowF b 5 1 u n xs := fun h => by
    refine ⟨h.1, ?_⟩
    rcases h.2 with hn | ⟨k, cap, cur, fz, hv, hk, hh, rest⟩
    · exact .inl hn
    · exact .inr ⟨k, cap, cur, fz, hv, hk, (by rw [Below.heap_setCell _ _ _ _ (by show k ≠ g; omega)]; exact hh), rest⟩
  rcases h with ⟨hB, u, hbk, ho, hne⟩ | ⟨hB, u, hbk, ho, hne⟩
  · exact .inl ⟨hB, u, by rw [Below.heap_setCell _ _ _ _ (by show b ≠ g; omega)]; exact hbk, hown ho, hne⟩
  · exact .inr ⟨hB, u, by rw [Below.heap_setCell _ _ _ _ (by show b ≠ g; omega)]; exact hbk, hown ho, hne⟩
/-- A node's depth is set down. -/
theorem ShowW.setDeep {w : World} {b n : Nat} {bx vu : Value} {g m c i : Nat} {up dl : List Int} {acc : List UInt8} {wr : World} (h : ShowW w b n bx vu (.slice (some ⟨g, 0, none⟩) m c) up dl acc wr) (hi : i < n) (v : Int) :
    ShowW w b n bx vu (.slice (some ⟨g, 0, none⟩) m c) up (dl.set i v) acc (wr.setCell ⟨g, i, none⟩ (.int .i64 v)) := by
  have hm : m = n := by
    obtain ⟨a, c, e, -⟩ := ownsRow_slice h.deep
    injection e
  subst hm
  have hl : dl.length = m := by have := h.deep.1; rw [intCells_length] at this; omega
  obtain ⟨h1, -, -, h4, h5⟩ := ints_set hl.symm (by omega : i < dl.length) h.deep v
  have hg := grown_set wr g i (.int .i64 v)
  have ht := ownsRow_typed h.deep
  exact ⟨box_keeps h.box hg (fun k hk => ht k hk), h.nb, ownsRow_apart h.ups hg (fun k e1 e2 => h.ud k e1 e2), h1, h.ul, h.dlow, h.ud, isB_set h.bld (h.dlow g rfl) _, below_store h.below h4 _ _, by simpa using h.lt⟩
theorem ShowW.deepCell {w : World} {b n : Nat} {bx vu : Value} {g m c i : Nat} {up dl : List Int} {acc : List UInt8} {wr : World} (h : ShowW w b n bx vu (.slice (some ⟨g, 0, none⟩) m c) up dl acc wr) (hi : i < n) : wr.cell? ⟨g, i, none⟩ = some (.int .i64 dl[i]!) ∧ wr.frozen? ⟨g, i, none⟩ = false := by
  have hm : m = n := by
    obtain ⟨a, c, e, -⟩ := ownsRow_slice h.deep
    injection e
  subst hm
  have hl : dl.length = m := by have := h.deep.1; rw [intCells_length] at this; omega
  obtain ⟨-, h2, h3, -, -⟩ := ints_set hl.symm (by omega : i < dl.length) h.deep 0
  exact ⟨h2, h3⟩
theorem ShowW.upCell {w : World} {b n : Nat} {bx vd : Value} {g m c i : Nat} {up dl : List Int} {acc : List UInt8} {wr : World} (h : ShowW w b n bx (.slice (some ⟨g, 0, none⟩) m c) vd up dl acc wr) (hi : i < up.length) : wr.cell? ⟨g, i, none⟩ = some (.int .i64 up[i]!) := by
  have hm : m = up.length := by
    obtain ⟨a, c, e, -⟩ := ownsRow_slice h.ups
    injection e
  subst hm
  exact (ints_set rfl hi h.ups 0).2.1
/-- When nothing has been told. -/
theorem show_start {w w1 w2 : World} {n : Nat} {bx vu : Value} {up : List Int} (hbx : w1.heap[w.heap.size]? = some (.cells #[bx] 24)) (hu : w1.ownsRow w.heap.size 3 1 vu up.length (intCells up)) (hb1 : Below w.heap.size w w1) (hd : w2.ownsRow w.heap.size 3 1 (.slice (some ⟨w1.heap.size, 0, none⟩) n n) n (madeCells (Value.int .i64 0).cells (n * 1)).toList) (hg : w1.grownBy w2 none) :
    ShowW w w2.heap.size n bx vu (.slice (some ⟨w1.heap.size, 0, none⟩) n n) up (List.replicate n 0) [] (w2.alloc (.cells #[.pointer none, .slice none 0 0] 69)) := by
  have hlt := (ownsRow_lt hd (show (Value.slice (some ⟨w1.heap.size, 0, none⟩) n n).ownBlock = some w1.heap.size from rfl)).2
  have h0 := (Array.getElem?_eq_some_iff.1 hbx).1
  have hb2 : Below w.heap.size w w2 := Below.grown hb1 hg hb1.size (fun g e => by cases e)
  have hA : Below w2.heap.size w2 (w2.alloc (.cells #[.pointer none, .slice none 0 0] 69)) := (Below.refl _ w2).alloc (Nat.le_refl _) _
  rw [intCells_made] at hd
  have hu2 := ownsRow_apart hu hg (fun g e => by cases e)
  exact ⟨(hA.block _ (by omega)).trans ((hg.block _ h0 (by simp)).trans hbx), by omega, ownsRow_below hu2 hA, ownsRow_below hd hA, fun g e => by have := (ownsRow_lt hu e).2; omega, fun g e => by injection e with e; simp only at e; omega, fun g e1 e2 => by have := (ownsRow_lt hu e2).2; injection e1 with e1; simp only at e1; omega, Lib.IsBuilderF.of (Lib.fresh_isBuilder 69 5 w2), hb2.trans (hA.mono hb2.size), by simp⟩
end Go.Proofs.YtlebikmiophghaaDoor
