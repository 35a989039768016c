/-
  WeighTree: how much a tree weighs. Conditions: bounds on sizes.
-/
import Derived.Test.YtlebikmiophghaaDoorTreeAlive
set_option linter.unusedSimpArgs false
set_option linter.unusedVariables false
namespace Go.Proofs.YtlebikmiophghaaDoor
open Go.Shelf Go.RowKit Go.Lib

def weighN (x : NodeP) : Int := 1 + x.text.size + x.link.size + x.title.size + x.kids.length + x.pieces.length
def weighAt (most : Int) : List NodeP → Int → Int
  | [], n => n
  | x :: t, n => if n ≤ most then weighAt most t (n + weighN x) else n
theorem weighN_pos (x : NodeP) : 1 ≤ weighN x := by unfold weighN; omega
theorem weighAt_ge (most : Int) : ∀ (l : List NodeP) (n : Int), n ≤ weighAt most l n
  | [], n => Int.le_refl _
  | x :: t, n => by
    rw [weighAt]
    split
    · have := weighAt_ge most t (n + weighN x)
      have := weighN_pos x
      omega
    · exact Int.le_refl _
theorem weighAt_all {most : Int} : ∀ (l : List NodeP) (n : Int), weighAt most l n ≤ most → (∀ x ∈ l, n + weighN x ≤ most) ∧ n + l.length ≤ most
  | [], n, h => ⟨(fun x hx => by cases hx), by simpa [weighAt] using h⟩
  | x :: t, n, h => by
    rw [weighAt] at h
    split at h
    · obtain ⟨h1, h2⟩ := weighAt_all t _ h
      have h3 := weighAt_ge most t (n + weighN x)
      have h4 := weighN_pos x
      refine ⟨fun y hy => ?_, by rw [List.length_cons]; omega⟩
      rcases List.mem_cons.1 hy with rfl | hy
      · omega
      · have := h1 y hy; omega
    · omega
/-- What a tree that isn't too heavy is. -/
theorem weigh_small {l : List NodeP} {most : Int} (hm : most ≤ 4000) (hok : ∀ x ∈ l, NodeOk x) (h : weighAt most l 0 ≤ most) : l.length ≤ 4000 ∧ (∀ x ∈ l, SmallN x) ∧ ∀ x ∈ l, x.kids.length ≤ 4000 ∧ x.pieces.length ≤ 4000 ∧ x.text.size ≤ 4000 ∧ x.link.size ≤ 4000 ∧ x.title.size ≤ 4000 := by
  obtain ⟨h1, h2⟩ := weighAt_all l 0 h
  have hb : ∀ x ∈ l, x.kids.length ≤ 4000 ∧ x.pieces.length ≤ 4000 ∧ x.text.size ≤ 4000 ∧ x.link.size ≤ 4000 ∧ x.title.size ≤ 4000 := fun x hx => by
    have := h1 x hx
    unfold weighN at this
    omega
  refine ⟨by omega, fun x hx => ?_, hb⟩
  obtain ⟨b1, b2, b3, b4, b5⟩ := hb x hx
  exact ⟨by omega, by omega, by omega, (hok x hx).level.1, (hok x hx).level.2⟩

set_option maxRecDepth 100000 in
set_option maxHeartbeats 8000000 in
theorem weigh_any (a : Option Addr) (cap : Nat) (l : List NodeP) (most : Int) (hm0 : 0 ≤ most) (hm1 : most ≤ 10000) (hl : l.length ≤ 4611686018427387904) (hok : ∀ x ∈ l, NodeOk x) (w : World) (hI : NodesIn w.heap.size w (.slice a l.length cap) l) :
    Calls Tryd.prog 13 #[.agg #[.slice a l.length cap], .int .i64 most] w fun e w' => e = .returned (.int .i64 (weighAt most l 0)) ∧ Below w.heap.size w w' := by
  have HI := Lib.hid hI
  have HOK := Lib.hid hok
  have mixed : Tryd.prog.follows Departure.mixedOrders = true := rfl
  have hbx := heap_alloc_new w (.cells #[.slice a l.length cap] 24)
  have hB0 : Below w.heap.size w (w.alloc (.cells #[.slice a l.length cap] 24)) := (Below.refl _ w).alloc (Nat.le_refl _) _
  have HBX := Lib.hid hbx
  clear hI hok hbx
  go_enter Tryd.func13, Tryd.ntmps13
  go_wp2_with fail
  go_loopw [5, 6, 7] (fun nv iv _ wr => ∃ (k : Nat) (n : Int), k ≤ l.length ∧ iv = .int .i64 k ∧ nv = .int .i64 n ∧ 0 ≤ n ∧ n ≤ 800000000000000 ∧ RowKit.Hid (weighAt most (l.drop k) n = weighAt most l 0) ∧ wr.heap[w.heap.size]? = some (.cells #[.slice a l.length cap] 24) ∧ Below w.heap.size w wr) (fun _ iv _ _ => l.length - (RowKit.intOf iv).toNat)
  case atStart => exact ⟨0, 0, Nat.zero_le _, rfl, rfl, by omega, by omega, rfl, HBX.out, hB0⟩
  case round =>
    clear HBX hB0
    obtain ⟨k, n, hk, rfl, rfl, hn0, hn1, HE, hb, hbw⟩ := hrel
    have hbc := cell_only hb
    by_cases hlt : k < l.length
    · have hlt' : (k : Int) < (l.length : Int) := by omega
      have HST : RowKit.Hid (weighAt most (l.drop k) n = if n ≤ most then weighAt most (l.drop (k + 1)) (n + weighN l[k]) else n) := by
        show _ = _
        rw [List.drop_eq_getElem_cons hlt, weighAt]
      by_cases hnm : n ≤ most
      · obtain ⟨g, off, rfl, hgl, -, hc⟩ := (HI.out.below hbw).at hlt
        obtain ⟨c0, c1, c2, c3, c4, c5, c6, c7, ⟨ka, kc, c8, -⟩, ⟨pa, pc, c9, -⟩⟩ := hc k hlt
        obtain ⟨o1, o2, o3, o4, o5, -, -⟩ := HOK.out l[k] (List.getElem_mem hlt)
        have HN : RowKit.Hid (weighAt most (l.drop (k + 1)) (n + weighN l[k]) = weighAt most l 0) := by
          show _ = _
          rw [← HE.out, HST.out, if_pos hnm]
        have HWN : RowKit.Hid (weighN l[k] = 1 + l[k].text.size + l[k].link.size + l[k].title.size + l[k].kids.length + l[k].pieces.length) := rfl
        clear hc HST HE
        generalize l[k] = x at *
        have HB5 := Lib.hid (hbw.alloc hbw.size (.cells #[.int .i64 x.kind, .int .i64 x.fr, .int .i64 x.to, .int .i64 x.level, .string x.text, .string x.link, .string x.title, .bool x.tight, .slice ka x.kids.length kc, .slice pa x.pieces.length pc] 33))
        have HBB := Lib.hid ((heap_alloc_old wr (.cells #[.int .i64 x.kind, .int .i64 x.fr, .int .i64 x.to, .int .i64 x.level, .string x.text, .string x.link, .string x.title, .bool x.tight, .slice ka x.kids.length kc, .slice pa x.pieces.length pc] 33) (Array.getElem?_eq_some_iff.1 hb).1).trans hb)
        have hs1 : (0 : Int) ≤ (x.text.size : Int) ∧ (x.text.size : Int) ≤ 140737488355328 := by omega
        have hs2 : (0 : Int) ≤ (x.link.size : Int) ∧ (x.link.size : Int) ≤ 140737488355328 := by omega
        have hs3 : (0 : Int) ≤ (x.title.size : Int) ∧ (x.title.size : Int) ≤ 140737488355328 := by omega
        have hs4 : (0 : Int) ≤ (x.kids.length : Int) ∧ (x.kids.length : Int) ≤ 140737488355328 := by omega
        have hs5 : (0 : Int) ≤ (x.pieces.length : Int) ∧ (x.pieces.length : Int) ≤ 140737488355328 := by omega
        obtain ⟨s1, s1'⟩ := hs1
        obtain ⟨s2, s2'⟩ := hs2
        obtain ⟨s3, s3'⟩ := hs3
        obtain ⟨s4, s4'⟩ := hs4
        obtain ⟨s5, s5'⟩ := hs5
        clear hb hbw o1 o2 o3 o4 o5
        go_wp2_with fail
        go_roundw
        case rel => exact ⟨k + 1, n + (1 + x.text.size + x.link.size + x.title.size + x.kids.length + x.pieces.length), by omega, by go_num, by first | rfl | go_num, by omega, by omega, by rw [← HWN.out]; exact HN.out, HBB.out, HB5.out⟩
        case measure => simp [RowKit.intOf]; omega
      · have HN : RowKit.Hid (weighAt most l 0 = n) := by
          show _ = _
          rw [← HE.out, HST.out, if_neg hnm]
        have hnm' : most < n := by omega
        clear HST HE
        go_wp2_with fail
        go_ret
        exact ⟨by rw [HN.out]; rfl, hbw⟩
    · obtain rfl : k = l.length := by omega
      have HN : RowKit.Hid (weighAt most l 0 = n) := by
        show _ = _
        rw [← HE.out, List.drop_length, weighAt]
      clear HE
      go_wp2_with fail
      go_ret
      exact ⟨by rw [HN.out]; rfl, hbw⟩
end Go.Proofs.YtlebikmiophghaaDoor
