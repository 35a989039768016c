/-
  strings.Builder's WriteByte beside a row of bytes that was made of a text: the row stands; tree.quoted. Conditions: bounds on sizes.
-/
import Derived.Test.YtlebikmiophghaaDoorBuilderA
import Derived.Test.YtlebikmiophghaaDoorBase
import Derived.Lib.Hide
set_option linter.unusedSimpArgs false
set_option linter.unusedVariables false
namespace Go.Proofs.YtlebikmiophghaaDoor
open Go.RowKit Go.Shelf

/-- Each row of bytes whose mark lies behind its end stands. -/
def MarkKept (b : Nat) (w w' : World) : Prop := ∀ (k : Nat) (cs : Array Value), k ≠ b → w.heap[k]? = some (.cells cs 5 (cs.size, cs.size + 1)) → w'.heap[k]? = some (.cells cs 5 (cs.size, cs.size + 1))
theorem MarkKept.trans {b : Nat} {a c d : World} (h : MarkKept b a c) (k : MarkKept b c d) : MarkKept b a d := fun i cs hb hi => k i cs hb (h i cs hb hi)
theorem MarkKept.refl (b : Nat) (a : World) : MarkKept b a a := fun _ _ _ h => h
/-- A builder's own row is none of these. -/
theorem marked_own {w : World} {B n : Nat} {v : Value} {xs : List Value} (h : w.ownsRowF B 5 1 v n xs) {k : Nat} {cs : Array Value} (hk : w.heap[k]? = some (.cells cs 5 (cs.size, cs.size + 1))) : v.ownBlock ≠ some k := by
  intro e
  rcases h.2 with ⟨rfl, _⟩ | ⟨g, cap, cur, fz, rfl, _, hg, hfz, hnc, _, hcs, _⟩
  · cases e
  · injection e with e
    simp only at e
    subst e
    rw [hk] at hg
    simp only [Option.some.injEq, Obj.cells.injEq] at hg
    obtain ⟨h1, -, h2⟩ := hg
    subst h1
    rw [← h2] at hfz
    simp only at hfz
    omega
theorem copyCheck_marked (B b : Nat) (bs : List Value) (w : World) (h : IsB B b bs w) :
    Calls Tryd.prog 55 #[.pointer (some ⟨b, 0, none⟩)] w fun e w' => e = .returned (.tuple #[]) ∧ (UsedB B b bs w' ∧ Below B w w' ∧ Lib.OthersKept 5 (some b) w w' ∧ MarkKept b w w') := by
  rcases h with h | h
  · refine (copyCheck_fresh b w h.cell0 h.shape h.frozen0).mono ?_
    rintro e w' ⟨rfl, rfl⟩
    exact ⟨rfl, h.used _, (Below.refl B w).setCell (p := ⟨b, 0, none⟩) h.1 _, (Lib.OthersKept.refl _ _ w).setCell ⟨b, 0, none⟩ rfl _, fun k cs hkb hk => by rw [Below.heap_setCell _ _ _ _ (fun e => hkb (by rw [e]))]; exact hk⟩
  · refine (copyCheck_used b w h.cell0).mono ?_
    rintro e w' ⟨rfl, rfl⟩
    exact ⟨rfl, h, Below.refl B _, Lib.OthersKept.refl _ _ _, MarkKept.refl _ _⟩

set_option maxHeartbeats 4000000 in
set_option maxRecDepth 100000 in
theorem writeByte_marked (B b : Nat) (bs : List Value) (c : Int) (w : World) (h : IsB B b bs w) (hlen : bs.length + 1 ≤ 140737488355328) (hBw : B ≤ w.heap.size) :
    Calls Tryd.prog 79 #[.pointer (some ⟨b, 0, none⟩), .int .u8 c] w fun e w' => e = .returned .nilIface ∧ (UsedB B b (bs ++ [.int .u8 c]) w' ∧ Below B w w' ∧ Lib.OthersKept 5 (some b) w w' ∧ MarkKept b w w') := by
  obtain ⟨i0, hi, hz0, hz1, hz2⟩ := info_parts infoByte
  go_enter Tryd.func79, Tryd.ntmps79
  go_wp2_with (go_at_call 55; refine (copyCheck_marked B b bs _ h).mono ?_)
  rintro e w1 ⟨rfl, h1, hb1, hk1, hm1⟩
  obtain ⟨hB, v, hbk, hown, hne⟩ := h1
  have c0 : w1.cell? ⟨b, 0, none⟩ = some (.pointer (some ⟨b, 0, none⟩)) := by rw [Lib.cell_of_heap hbk]; rfl
  have c1 : w1.cell? ⟨b, 1, none⟩ = some v := by rw [Lib.cell_of_heap hbk]; rfl
  go_wp2_with (at_builtin; refine wpList_append_ownF _ rfl _ _ 60 rfl B 5 i0 (.int .u8 0) 1 1 Tryd.underlying60 hi hz0 hz1 hz2 rfl (by decide) _ _ _ rfl (hown.alloc _) ⟨w1.heap.size, 0, none⟩ 1 1 [.int .u8 c] rfl rfl ?c1 ?c2 ?c3 ?c4 ?c5 ?_)
  case c1 =>
    intro j u hj
    match j, hj with
    | 0, hj => simp at hj; subst hj; simp [Addr.add]
  case c2 => intro u hu; simp at hu; subst hu; rfl
  case c3 => unfold maxLen; omega
  case c4 => omega
  case c5 => have := hb1.size; simp; omega
  intro v' w2 hown' hgrow _
  have hlt : b < w1.heap.size := by
    rcases Nat.lt_or_ge b w1.heap.size with h' | h'
    · exact h'
    · simp [Array.getElem?_eq_none h'] at hbk
  have hb2 : w2.heap[b]? = some (.cells #[.pointer (some ⟨b, 0, none⟩), v] 69 (0, 0)) := by
    rw [hgrow.block b (by simp; omega) (fun e => hne e.symm), Lib.alloc_old w1 _ b hlt]
    exact hbk
  have d0 : w2.cell? ⟨b, 0, none⟩ = some (.pointer (some ⟨b, 0, none⟩)) := by rw [Lib.cell_of_heap hb2]; rfl
  have d1 : w2.cell? ⟨b, 1, none⟩ = some v := by rw [Lib.cell_of_heap hb2]; rfl
  have f1 : w2.frozen? ⟨b, 1, none⟩ = false := Lib.frozen_of_heap hb2 1
  obtain ⟨g, cap, rfl⟩ : ∃ g cap, v' = .slice (some ⟨g, 0, none⟩) (bs.length + 1) cap := by
    rcases hown'.2 with ⟨_, h0⟩ | ⟨g, cap, cur, fz, hv, _⟩
    · omega
    · exact ⟨g, cap, hv⟩
  go_wp2
  go_ret
  refine ⟨rfl, ?_, ?_, ((hk1.alloc _).grown hgrow (Lib.ownsRowF_kind (hown.alloc _))).setCell ⟨b, 1, none⟩ rfl _, hm1.trans (fun k cs hkb hk => ?_)⟩
  · exact Lib.BuilderAtF.put (T := 69) (e := 5) hB hb2 (bs' := bs ++ [.int .u8 c]) (by simpa using hown') (by decide)
  · exact ((hb1.alloc (by have := hb1.size; omega) _).grown hgrow (by have := hb1.size; simp; omega) (fun k hk => (hown.lt k hk).1)).setCell (p := ⟨b, 1, none⟩) hB _
  · have hk' : (w1.alloc (.cells #[.int .u8 c] 5)).heap[k]? = some (.cells cs 5 (cs.size, cs.size + 1)) := (heap_alloc_old w1 _ (Array.getElem?_eq_some_iff.1 hk).1).trans hk
    rw [Below.heap_setCell _ _ _ _ (fun e => hkb (by rw [e])), hgrow.block k (Array.getElem?_eq_some_iff.1 hk').1 (fun e => (marked_own (hown.alloc _) hk') e.symm)]
    exact hk'


def hexL : List UInt8 := [48, 49, 50, 51, 52, 53, 54, 55, 56, 57, 97, 98, 99, 100, 101, 102]
def plainB (c : UInt8) : Bool := decide (32 ≤ c.toNat) && !(c == 34) && !(c == 92) && decide (c.toNat ≤ 126)
def quoteB (c : UInt8) : List UInt8 := if plainB c then [c] else [92, hexL[c.toNat / 16]!, hexL[c.toNat % 16]!]
def quoteL (l : List UInt8) : List UInt8 := l.flatMap quoteB
theorem quoteB_len (c : UInt8) : (quoteB c).length ≤ 3 := by unfold quoteB; split <;> simp

def hexS : ByteArray := ⟨#[48, 49, 50, 51, 52, 53, 54, 55, 56, 57, 97, 98, 99, 100, 101, 102]⟩
theorem hexS_get (n : Nat) (h : n < 16) (hb : n < (⟨#[48, 49, 50, 51, 52, 53, 54, 55, 56, 57, 97, 98, 99, 100, 101, 102]⟩ : ByteArray).size) : (⟨#[48, 49, 50, 51, 52, 53, 54, 55, 56, 57, 97, 98, 99, 100, 101, 102]⟩ : ByteArray)[n]'hb = hexL[n]! := by
  rw [getElem!_pos hexL n h]; rfl
theorem cat_quote (acc : List UInt8) : ((⟨#[34]⟩ : ByteArray) ++ (⟨acc.toArray⟩ : ByteArray) ++ (⟨#[34]⟩ : ByteArray)) = ⟨([34] ++ acc ++ [34]).toArray⟩ := by
  apply ByteArray.ext
  simp [ByteArray.data_append]
theorem esc_cells (acc : List UInt8) (c : UInt8) : Lib.byteCells acc ++ [.int .u8 92] ++ [.int .u8 (hexL[c.toNat / 16]!.toNat : Int)] ++ [.int .u8 (hexL[c.toNat % 16]!.toNat : Int)] = Lib.byteCells (acc ++ [92, hexL[c.toNat / 16]!, hexL[c.toNat % 16]!]) := by
  rw [Lib.byteCells_append]
  simp only [List.append_assoc]
  rfl

set_option maxHeartbeats 4000000 in
set_option maxRecDepth 100000 in
theorem quoted_any (s : ByteArray) (w : World) (hs : s.size ≤ 1000000000) :
    Calls Tryd.prog 61 #[.string s] w fun e w' => e = .returned (.string ⟨([34] ++ quoteL s.data.toList ++ [34]).toArray⟩) ∧ Below w.heap.size w w' := by
  have hcv := fun (X : World) => run_bytes_of_string (P := Tryd.prog) X 9 60 5 s Tryd.underlying9 Tryd.underlying60 Tryd.underlying5
  go_enter Tryd.func61, Tryd.ntmps61
  go_wp2_with fail
  clear hcv
  generalize grownCap (w.alloc (.cells #[.pointer none, .slice none 0 0] 69)) s.size 0 5 = cp at *
  go_loopw [5, 9] (fun _ iv wr => ∃ (k : Nat) (acc : List UInt8), k ≤ s.size ∧ iv = .int .i64 k ∧ IsB w.heap.size w.heap.size (Lib.byteCells acc) wr ∧ wr.heap[w.heap.size + 1]? = some (.cells (bytesRow s cp) 5 ((bytesRow s cp).size, (bytesRow s cp).size + 1)) ∧ Below w.heap.size w wr ∧ RowKit.Hid (acc ++ quoteL (s.data.toList.drop k) = quoteL s.data.toList) ∧ acc.length ≤ 3 * k) (fun _ iv _ => s.size - (RowKit.intOf iv).toNat)
  case atStart =>
    refine ⟨0, [], Nat.zero_le _, rfl, (Lib.IsBuilderF.of (Lib.fresh_isBuilder 69 5 w)).alloc _, ?_, (((Below.refl _ w).alloc (Nat.le_refl _) _).alloc (by simp) _).drew, rfl, by simp⟩
    have := heap_alloc_new (w.alloc (.cells #[.pointer none, .slice none 0 0] 69)) (.cells (bytesRow s cp) 5 ((bytesRow s cp).size, (bytesRow s cp).size + 1))
    rw [World.size_alloc] at this
    exact this
  case round =>
    obtain ⟨k, acc, hk, rfl, hB, hR, hbw, HA, hal⟩ := hrel
    have zw := hbw.size
    have hlr : w.heap.size + 1 < wr.heap.size := (Array.getElem?_eq_some_iff.1 hR).1
    by_cases hlt : k < s.size
    · have hlt' : (k : Int) < (s.size : Int) := by omega
      have hkd : k < s.data.size := hlt
      have hcell : wr.cell? ⟨w.heap.size + 1, k, none⟩ = some (.int .u8 (s.data[k].toNat : Int)) := by
        rw [Lib.cell_of_heap hR]; exact bytesRow_at s cp k hkd
      have HST : RowKit.Hid (quoteL (s.data.toList.drop k) = quoteB s.data[k] ++ quoteL (s.data.toList.drop (k + 1))) := by
        show _ = _
        rw [List.drop_eq_getElem_cons (by simpa using hkd)]; rfl
      have HL3 := quoteB_len s.data[k]
      have HQ : RowKit.Hid (quoteB s.data[k] = if plainB s.data[k] then [s.data[k]] else [92, hexL[s.data[k].toNat / 16]!, hexL[s.data[k].toNat % 16]!]) := rfl
      have hc255 : s.data[k].toNat ≤ 255 := by have := s.data[k].toNat_lt; omega
      generalize s.data[k] = c at *
      by_cases hpl : plainB c = true
      · have HQ2 : RowKit.Hid (quoteB c = [c]) := by show _ = _; rw [HQ.out, if_pos hpl]
        have hpp := hpl
        simp only [plainB, Bool.and_eq_true, decide_eq_true_eq, Bool.not_eq_true', beq_eq_false_iff_ne] at hpp
        obtain ⟨⟨⟨p1, p2⟩, p3⟩, p4⟩ := hpp
        have h34 : ((c.toNat : Int) == 34) = false := by rw [beq_eq_false_iff_ne]; intro e; exact p2 (UInt8.toNat_inj.1 (by simpa using (by omega : c.toNat = 34)))
        have h92 : ((c.toNat : Int) == 92) = false := by rw [beq_eq_false_iff_ne]; intro e; exact p3 (UInt8.toNat_inj.1 (by simpa using (by omega : c.toNat = 92)))
        have p1' : ¬ (c.toNat : Int) < 32 := by omega
        have p4' : ¬ (126 : Int) < (c.toNat : Int) := by omega
        go_wp2_with fail
        refine (writeByte_marked w.heap.size w.heap.size _ (c.toNat : Int) wr hB (by rw [Lib.byteCells_length]; omega) (by omega)).mono ?_
        rintro e W1 ⟨rfl, h1, b1, -, m1⟩
        have hR1 := m1 _ _ (by omega) hR
        clear hR hB m1
        go_wp2_with fail
        go_roundw
        case rel => exact ⟨k + 1, acc ++ [c], by omega, by go_num, Or.inr (by rw [Lib.byteCells_append]; exact h1), hR1, hbw.trans b1, (by show _ = _; rw [← HA.out, HST.out, HQ2.out]; simp), by simp; omega⟩
        case measure => simp [RowKit.intOf]; omega
      · have HQ2 : RowKit.Hid (quoteB c = [92, hexL[c.toNat / 16]!, hexL[c.toNat % 16]!]) := by show _ = _; rw [HQ.out, if_neg hpl]
        obtain ⟨b1', hb1⟩ : ∃ v, decide ((c.toNat : Int) < 32) = v := ⟨_, rfl⟩
        obtain ⟨b2', hb2⟩ : ∃ v, ((c.toNat : Int) == 34) = v := ⟨_, rfl⟩
        obtain ⟨b3', hb3⟩ : ∃ v, ((c.toNat : Int) == 92) = v := ⟨_, rfl⟩
        obtain ⟨b4', hb4⟩ : ∃ v, decide ((126 : Int) < (c.toNat : Int)) = v := ⟨_, rfl⟩
        have hor : b1' = true ∨ b1' = false ∧ b2' = true ∨ b1' = false ∧ b2' = false ∧ b3' = true ∨ b1' = false ∧ b2' = false ∧ b3' = false ∧ b4' = true := by
          cases b1' <;> cases b2' <;> cases b3' <;> cases b4' <;> simp
          apply hpl
          simp only [plainB, Bool.and_eq_true, decide_eq_true_eq, Bool.not_eq_true', beq_eq_false_iff_ne]
          refine ⟨⟨⟨by have := of_decide_eq_false hb1; omega, fun e => ?_⟩, fun e => ?_⟩, by have := of_decide_eq_false hb4; omega⟩
          · subst e; simp at hb2
          · subst e; simp at hb3
        clear hpl HQ
        rcases hor with rfl | ⟨rfl, rfl⟩ | ⟨rfl, rfl, rfl⟩ | ⟨rfl, rfl, rfl, rfl⟩
        all_goals
          go_wp2_with fail
          refine (writeByte_marked w.heap.size w.heap.size _ 92 wr hB (by rw [Lib.byteCells_length]; omega) (by omega)).mono ?_
          rintro e W1 ⟨rfl, h1, b1, -, m1⟩
          have hR1 := m1 _ _ (by omega) hR
          have z1 := b1.size
          clear hR hB m1
          go_wp2_with fail
          refine (writeByte_marked w.heap.size w.heap.size _ _ W1 (Or.inr h1) (by rw [List.length_append, Lib.byteCells_length, List.length_singleton]; omega) (by omega)).mono ?_
          rintro e W2 ⟨rfl, h2, b2, -, m2⟩
          have hR2 := m2 _ _ (by omega) hR1
          have z2 := b2.size
          clear hR1 h1 m2
          go_wp2_with fail
          refine (writeByte_marked w.heap.size w.heap.size _ _ W2 (Or.inr h2) (by rw [List.length_append, List.length_append, Lib.byteCells_length, List.length_singleton, List.length_singleton]; omega) (by omega)).mono ?_
          rintro e W3 ⟨rfl, h3, b3, -, m3⟩
          have hR3 := m3 _ _ (by omega) hR2
          rw [hexS_get _ (by omega), hexS_get _ (by omega)] at h3
          clear hR2 h2 m3
          go_wp2_with fail
          go_roundw
          case rel => exact ⟨k + 1, acc ++ [92, hexL[c.toNat / 16]!, hexL[c.toNat % 16]!], by omega, by go_num, Or.inr (by rw [← esc_cells acc c]; exact h3), hR3, hbw.trans (b1.trans (b2.trans b3)), (by show _ = _; rw [← HA.out, HST.out, HQ2.out]; simp), by simp; omega⟩
          case measure => simp [RowKit.intOf]; omega
    · obtain rfl : k = s.size := by omega
      have HA2 : RowKit.Hid (quoteL s.data.toList = acc) := by
        show _ = _
        have := HA.out
        rw [List.drop_of_length_le (by have e2 : s.data.size = s.size := rfl; simp)] at this
        rw [← this]; simp [quoteL]
      rw [HA2.out]
      clear HA
      have hz : (⟨acc.toArray⟩ : ByteArray).size = acc.length := by rfl
      have hal' : (⟨acc.toArray⟩ : ByteArray).size ≤ 3000000000 := by rw [hz]; omega
      go_wp2_with fail
      refine (Tryd.Builder_String_any_k w.heap.size w.heap.size acc _ hB (by omega)).mono ?_
      rintro e W1 ⟨rfl, _, b1, _⟩
      clear hz
      go_wp2_with fail
      go_ret
      exact ⟨by rw [HA2.out, cat_quote]; rfl, hbw.trans b1⟩
end Go.Proofs.YtlebikmiophghaaDoor
