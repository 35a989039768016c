/-
  tree.Erase: the tree without places. Conditions: bounds on sizes.
-/
import Derived.Test.YtlebikmiophghaaDoorTreeW
import Derived.Test.YtlebikmiophghaaDoorTreeCopy
set_option linter.unusedSimpArgs false
set_option linter.unusedVariables false
namespace Go.Proofs.YtlebikmiophghaaDoor
open Go.RowKit Go.Lib

theorem set_places {w : World} {L : Nat} {a0 a1 a2 a3 a4 a5 a6 a7 a8 a9 : Value} {T : TypeId} (h : w.heap[L]? = some (.cells #[a0, a1, a2, a3, a4, a5, a6, a7, a8, a9] T)) : (((w.setCell ⟨L, 1, none⟩ (.int .i64 0)).setCell ⟨L, 2, none⟩ (.int .i64 0)).setCell ⟨L, 9, none⟩ (.slice none 0 0)).heap[L]? = some (.cells #[a0, .int .i64 0, .int .i64 0, a3, a4, a5, a6, a7, a8, .slice none 0 0] T) := by
  simp [World.setCell, Array.getElem?_modify, h]

set_option maxRecDepth 100000 in
set_option maxHeartbeats 8000000 in
theorem erase_any (a : Option Addr) (cap : Nat) (l : List NodeP) (hl : l.length ≤ 100000) (hk : ∀ x ∈ l, x.kids.length ≤ 100000) (w : World) (hI : NodesIn w.heap.size w (.slice a l.length cap) l) :
    Calls Tryd.prog 31 #[.agg #[.slice a l.length cap]] w fun e w' => (∃ v rs, e = .returned (.agg #[v]) ∧ TreeOwn w.heap.size w' v rs ∧ rs.map NodeV.n = l.map eraseN) ∧ Below w.heap.size w w' := by
  have HI := Lib.hid hI
  have HK := Lib.hid hk
  obtain ⟨i0, hi, hz0, hz1, hz2⟩ := info_parts infoNode
  have mixed : Tryd.prog.follows Departure.mixedOrders = true := rfl
  clear hI hk
  go_enter Tryd.func31, Tryd.ntmps31
  go_wp2
  go_loopw [5, 9] (fun _ iv wr => ∃ (k : Nat) (rs : List NodeV) (v : Value), k ≤ l.length ∧ iv = .int .i64 k ∧ wr.heap[w.heap.size]? = some (.cells #[.slice a l.length cap] 24) ∧ wr.heap[w.heap.size + 1]? = some (.cells #[.slice none 0 0] 24) ∧ wr.heap[w.heap.size + 1 + 1]? = some (.cells #[v] 24) ∧ TreeOwn w.heap.size wr v rs ∧ Below w.heap.size w wr ∧ rs.length ≤ k ∧ RowKit.Hid (rs.map NodeV.n = (l.take k).map eraseN)) (fun _ iv _ => l.length - (RowKit.intOf iv).toNat)
  case atStart =>
    refine ⟨0, [], .slice none 0 0, Nat.zero_le _, rfl, ?_, ?_, ?_, TreeOwn.nil _ _, (((Below.refl _ w).alloc (Nat.le_refl _) _).alloc (by simp) _).alloc (by simp; omega) _, Nat.le_refl _, rfl⟩
    · rw [heap_alloc_old _ _ (by simp; omega), heap_alloc_old _ _ (by simp)]; exact heap_alloc_new w _
    · rw [heap_alloc_old _ _ (by simp)]
      have := heap_alloc_new (w.alloc (.cells #[.slice a l.length cap] 24)) (.cells #[.slice none 0 0] 24)
      simpa using this
    · have := heap_alloc_new ((w.alloc (.cells #[.slice a l.length cap] 24)).alloc (.cells #[.slice none 0 0] 24)) (.cells #[.slice none 0 0] 24)
      simpa using this
  case round =>
    obtain ⟨k, rs, v, hk, rfl, hp0, hp1, hp2, hT, hbw, hrl, HM⟩ := hrel
    have q2 := cell_only hp2
    by_cases hlt : k < l.length
    · have hlt' : (k : Int) < (l.length : Int) := by omega
      have hkl := HK.out l[k] (List.getElem_mem hlt)
      obtain ⟨g, off, rfl, hgl, -, hc⟩ := (HI.out.below hbw).at hlt
      obtain ⟨c0, c1, c2, c3, c4, c5, c6, c7, ⟨ka, kc, c8, hkI⟩, ⟨pa, pc, c9, -⟩⟩ := hc k hlt
      have HTK : RowKit.Hid (∀ kv pv, (rs ++ [(⟨eraseN l[k], kv, pv⟩ : NodeV)]).map NodeV.n = (l.take (k + 1)).map eraseN) := fun kv pv => by
        rw [List.map_append, HM.out, List.take_succ_eq_append_getElem hlt, List.map_append]; rfl
      clear hc
      generalize l[k] = x at *
      have zw := hbw.size
      have hNB : Below wr.heap.size wr (wr.alloc (.cells #[.int .i64 x.kind, .int .i64 0, .int .i64 0, .int .i64 x.level, .string x.text, .string x.link, .string x.title, .bool x.tight, .slice ka x.kids.length kc, .slice none 0 0] 33)) := (Below.refl _ wr).alloc (Nat.le_refl _) _
      have HN1 := Lib.hid (heap_alloc_new wr (.cells #[.int .i64 x.kind, .int .i64 0, .int .i64 0, .int .i64 x.level, .string x.text, .string x.link, .string x.title, .bool x.tight, .slice ka x.kids.length kc, .slice none 0 0] 33))
      have hNz : (wr.alloc (.cells #[.int .i64 x.kind, .int .i64 0, .int .i64 0, .int .i64 x.level, .string x.text, .string x.link, .string x.title, .bool x.tight, .slice ka x.kids.length kc, .slice none 0 0] 33)).heap.size = wr.heap.size + 1 := by simp
      have HB1 := Lib.hid hNB
      have hkI1 := (hkI.below (hNB.mono zw))
      have HT := Lib.hid hT
      have HBW := Lib.hid hbw
      have HNZ := Lib.hid hNz
      have hbase : wr.heap.size + 1 ≤ (wr.alloc (.cells #[.int .i64 x.kind, .int .i64 0, .int .i64 0, .int .i64 x.level, .string x.text, .string x.link, .string x.title, .bool x.tight, .slice ka x.kids.length kc, .slice none 0 0] 33)).heap.size := by rw [hNz]; exact Nat.le_refl _
      clear hNB hT hbw hNz hkI
      go_upto_region 7 with (at_builtin; (refine wpList_append_ints rfl _ _ rfl (wr.heap.size + 1) _ [] rfl (World.ownsRow_nil _ _ _ _) ka x.kids kc rfl hkI1 (by simp) (by omega) hbase ?_); intro v60 w6 hK6 hg6; rw [List.nil_append] at hK6; obtain ⟨a6, c6, rfl, -⟩ := ownsRow_slice hK6; have hS6 := (hg6.block wr.heap.size (by rw [HNZ.out]; exact Nat.lt_succ_self _) (show some wr.heap.size ≠ none by simp)).trans HN1.out; have f8 := frozen_plain hS6 8; have e8 := (cells_ten hS6).2.2.2.2.2.2.2.2.1)
      have HK6 := Lib.hid hK6
      have HS6 := Lib.hid hS6
      have z6 : wr.heap.size + 1 ≤ w6.heap.size := by have := hg6.size; rw [HNZ.out] at this; exact this
      have HB6 : RowKit.Hid (Below wr.heap.size wr w6) := Below.grown HB1.out hg6 HB1.out.size (fun g e => by cases e)
      clear hK6 hS6 hg6 f8 e8 hkI1
      have hS7 := set_kids (x := .slice a6 x.kids.length c6) HS6.out
      have hB7 : Below wr.heap.size wr (w6.setCell ⟨wr.heap.size, 8, none⟩ (.slice a6 x.kids.length c6)) := HB6.out.setCell (p := ⟨wr.heap.size, 8, none⟩) (Nat.le_refl _) _
      have hO7 : NodeOwn (wr.heap.size + 1) (w6.setCell ⟨wr.heap.size, 8, none⟩ (.slice a6 x.kids.length c6)) (⟨eraseN x, .slice a6 x.kids.length c6, .slice none 0 0⟩ : NodeV) := ⟨ownsRow_unlike HK6.out (grown_set w6 wr.heap.size 8 _) (T := 33) (by decide) (fun kk hk => by cases hk; exact ⟨_, _, HS6.out⟩), World.ownsRow_nil _ _ _ _⟩
      have hz7 : (w6.setCell ⟨wr.heap.size, 8, none⟩ (.slice a6 x.kids.length c6)).heap.size = w6.heap.size := by simp
      generalize w6.setCell ⟨wr.heap.size, 8, none⟩ (.slice a6 x.kids.length c6) = w7 at *
      have z7 : wr.heap.size + 1 ≤ w7.heap.size := by omega
      clear hz7
      obtain ⟨d0, d1, d2, d3, d4, d5, d6, d7, d8, d9⟩ := cells_ten hS7
      have r2 := cell_only ((hB7.block _ (Array.getElem?_eq_some_iff.1 hp2).1).trans hp2)
      have hR7 := HT.out.later hB7
      have hA : Below w7.heap.size w7 (w7.alloc (.cells #[.int .i64 x.kind, .int .i64 0, .int .i64 0, .int .i64 x.level, .string x.text, .string x.link, .string x.title, .bool x.tight, .slice a6 x.kids.length c6, .slice none 0 0] 33)) := (Below.refl _ _).alloc (Nat.le_refl _) _
      have hNew := new_ten w7 33 (⟨eraseN x, .slice a6 x.kids.length c6, .slice none 0 0⟩ : NodeV) w7.heap.size rfl
      simp only [eraseN] at hNew
      have HB8 : RowKit.Hid (Below wr.heap.size wr (w7.alloc (.cells #[.int .i64 x.kind, .int .i64 0, .int .i64 0, .int .i64 x.level, .string x.text, .string x.link, .string x.title, .bool x.tight, .slice a6 x.kids.length c6, .slice none 0 0] 33))) := hB7.trans (hA.mono (by omega))
      have HAP : RowKit.Hid (∀ s ∈ rs, ∀ g, s.kv.ownBlock = some g → (Value.slice a6 x.kids.length c6).ownBlock ≠ some g) := fun s hs g hg e => by
        have h1 := ownBlock_lt (HT.out.own s hs).kids hg
        have h2 := ownBlock_lt hO7.kids e
        omega
      have HOW : RowKit.Hid (NodeOwn w.heap.size (w7.alloc (.cells #[.int .i64 x.kind, .int .i64 0, .int .i64 0, .int .i64 x.level, .string x.text, .string x.link, .string x.title, .bool x.tight, .slice a6 x.kids.length c6, .slice none 0 0] 33)) (⟨eraseN x, .slice a6 x.kids.length c6, .slice none 0 0⟩ : NodeV)) := (hO7.later hA).mono (by omega)
      have HR8 := Lib.hid (hR7.later hA)
      have HBW8 := Lib.hid (HBW.out.trans (HB8.out.mono zw))
      have HP0 := Lib.hid ((HB8.out.block _ (Array.getElem?_eq_some_iff.1 hp0).1).trans hp0)
      have HP1 := Lib.hid ((HB8.out.block _ (Array.getElem?_eq_some_iff.1 hp1).1).trans hp1)
      have HP2 := Lib.hid ((HB8.out.block _ (Array.getElem?_eq_some_iff.1 hp2).1).trans hp2)
      have hRow := HR8.out.row
      obtain ⟨va, vc, rfl, -⟩ := ownsRow_slice hRow
      have hwz8 := HBW8.out.size
      clear hA hO7 hR7 hB7 hS7 HK6 HS6 HB6 HT HBW
      go_wp2_with (at_builtin; (refine wpList_append_own _ rfl _ _ 22 rfl w.heap.size 33 i0 (.agg #[.int .i64 0, .int .i64 0, .int .i64 0, .int .i64 0, .string ⟨#[]⟩, .string ⟨#[]⟩, .string ⟨#[]⟩, .bool false, .slice none 0 0, .slice none 0 0]) 10 136 Tryd.underlying22 hi hz0 hz1 hz2 rfl (by decide) _ _ _ rfl hRow ⟨w7.heap.size, 0, none⟩ 1 1 (nodeC (⟨eraseN x, .slice a6 x.kids.length c6, .slice none 0 0⟩ : NodeV)) rfl rfl hNew (one_ten _ rfl rfl) (by unfold maxLen; omega) (by omega) hwz8 ?_); intro v50 w5 hR5 hg5 _; obtain ⟨a5, c5, rfl, -⟩ := ownsRow_slice hR5; have hty := ownsRow_typed hRow; have hQ2 := block_grown hg5 HP2.out (by decide) hty; have y2 := cell_only hQ2; have yf := frozen_plain hQ2 0)
      have hb6 := HBW8.out
      have HP05 := block_grown hg5 HP0.out (by decide) hty
      have HP15 := block_grown hg5 HP1.out (by decide) hty
      have hT5 : TreeOwn w.heap.size w5 (.slice a5 (rs.length + 1) c5) (rs ++ [(⟨eraseN x, .slice a6 x.kids.length c6, .slice none 0 0⟩ : NodeV)]) := HR8.out.snoc HOW.out HAP.out hR5 hg5
      have hB5 := (Below.grown hb6 hg5 hb6.size (fun kk hk => (ownsRow_lt hRow hk).1)).setCell (p := ⟨w.heap.size + 1 + 1, 0, none⟩) (by show w.heap.size ≤ w.heap.size + 1 + 1; omega) (.slice a5 (rs.length + 1) c5)
      have hgE := grown_set w5 (w.heap.size + 1 + 1) 0 (.slice a5 (rs.length + 1) c5)
      have hT6 := hT5.unlike hgE (T := 24) (by decide) (by decide) (by decide) (fun kk hk => by cases hk; exact ⟨_, _, hQ2⟩)
      have hQ3 := set_only (x := .slice a5 (rs.length + 1) c5) hQ2
      have k0 : (w5.setCell ⟨w.heap.size + 1 + 1, 0, none⟩ (.slice a5 (rs.length + 1) c5)).heap[w.heap.size]? = some (.cells #[.slice (some ⟨g, off, none⟩) l.length cap] 24) := by
        rw [Below.heap_setCell _ _ _ _ (by show w.heap.size ≠ w.heap.size + 1 + 1; omega)]; exact HP05
      have k1 : (w5.setCell ⟨w.heap.size + 1 + 1, 0, none⟩ (.slice a5 (rs.length + 1) c5)).heap[w.heap.size + 1]? = some (.cells #[.slice none 0 0] 24) := by
        rw [Below.heap_setCell _ _ _ _ (by show w.heap.size + 1 ≠ w.heap.size + 1 + 1; omega)]; exact HP15
      have hrl7 : (rs ++ [(⟨eraseN x, .slice a6 x.kids.length c6, .slice none 0 0⟩ : NodeV)]).length ≤ k + 1 := by rw [List.length_append, List.length_singleton]; omega
      go_roundw
      case rel => exact ⟨k + 1, _, _, by omega, by go_num, k0, k1, hQ3, hT6, hB5, hrl7, HTK.out _ _⟩
      case measure => simp [RowKit.intOf]; omega
    · obtain rfl : k = l.length := by omega
      rw [List.take_length] at HM
      have HT := Lib.hid hT
      have HBW := Lib.hid hbw
      obtain ⟨va, vc, rfl, -⟩ := ownsRow_slice HT.out.row
      have q1 := cell_only hp1
      have f1 := frozen_plain hp1 0
      clear hT hbw
      go_wp2_with fail
      have hp3 := set_only (x := .slice va rs.length vc) hp1
      have q3 := cell_only hp3
      have hgE : wr.grownBy (wr.setCell ⟨w.heap.size + 1, 0, none⟩ (.slice va rs.length vc)) (some (w.heap.size + 1)) := ⟨rfl, rfl, rfl, by simp, fun i _ hi => Below.heap_setCell _ _ _ _ (fun e => hi (by rw [e]))⟩
      refine bodyPost_ret (v := .agg #[.slice va rs.length vc]) (results_cell_row rfl _ _ (w.heap.size + 1) 24 _ (0, 0) _ rfl hp3 Tryd.underlying24 rfl (by kernel_rfl)) rfl ⟨⟨_, rs, rfl, HT.out.unlike hgE (T := 24) (by decide) (by decide) (by decide) (fun kk hk => by cases hk; exact ⟨_, _, hp1⟩), HM.out⟩, HBW.out.setCell (p := ⟨w.heap.size + 1, 0, none⟩) (by show w.heap.size ≤ w.heap.size + 1; omega) _⟩
end Go.Proofs.YtlebikmiophghaaDoor
