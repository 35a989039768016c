/-
  More laws of a text's lines: each is known from where it begins; those of two texts with an end between. Conditions: none.
-/
import Derived.Test.YtkomodicpfbkhaaDoorLinesAt
namespace Go.Proofs.YtkomodicpfbkhaaDoor
open Go.Lib

theorem linesFrom_drop (s : ByteArray) (p k : Nat) (h : (linesP s).drop k = linesFrom s p) (hk : k < (linesP s).length) :
    p < s.size ∧ (linesP s)[k] = ⟨p, lineTo s p, lineEnd s (lineTo s p)⟩ ∧ (linesP s).drop (k + 1) = linesFrom s (lineEnd s (lineTo s p)) := by
  rw [List.drop_eq_getElem_cons hk] at h
  by_cases hp : p < s.size
  · rw [linesFrom_in s p hp] at h
    injection h with h1 h2
    exact ⟨hp, h1, h2⟩
  · rw [linesFrom_out s p hp] at h; cases h
theorem linesFrom_end (s : ByteArray) (p : Nat) (hp : p ≤ s.size) (h : linesFrom s p = []) : p = s.size := by
  by_cases hlt : p < s.size
  · rw [linesFrom_in s p hlt] at h; cases h
  · omega

theorem linesFrom_bound (s : ByteArray) (p : Nat) : ∀ l ∈ linesFrom s p, p ≤ l.from_ ∧ l.from_ ≤ l.to_ ∧ l.to_ ≤ l.end_ ∧ l.end_ ≤ s.size := by
  generalize hn : s.size - p = n
  induction n using Nat.strongRecOn generalizing p with
  | ind n ih =>
    intro l hl
    by_cases h : p < s.size
    · rw [linesFrom_in s p h] at hl
      have a := line_gt s p h
      have b := line_le s p (by omega)
      rcases List.mem_cons.1 hl with rfl | hl
      · exact ⟨Nat.le_refl _, lineTo_ge s p, lineEnd_ge s _, b⟩
      · have := ih (s.size - lineEnd s (lineTo s p)) (by omega) _ rfl l hl
        omega
    · rw [linesFrom_out s p h] at hl; cases hl
theorem linesP_bound (s : ByteArray) (k : Nat) (h : k < (linesP s).length) : (linesP s)[k].from_ ≤ (linesP s)[k].to_ ∧ (linesP s)[k].to_ ≤ (linesP s)[k].end_ ∧ (linesP s)[k].end_ ≤ s.size := by
  have := linesFrom_bound s 0 _ (List.getElem_mem h)
  exact ⟨this.2.1, this.2.2.1, this.2.2.2⟩

theorem get_app (x y : ByteArray) (k : Nat) (h : k < x.size + y.size) : (x ++ y).get! k = if k < x.size then x.get! k else y.get! (k - x.size) := by
  have hs : k < (x ++ y).size := by rw [ByteArray.size_append]; exact h
  rw [bang_get _ k hs]
  split
  · rename_i hx
    rw [bang_get x k hx, ByteArray.getElem_append_left hx]
  · rename_i hx
    rw [bang_get y (k - x.size) (by omega), ByteArray.getElem_append_right (by omega)]

/-- Where a text's last byte is an end, more text behind it leaves its lines. -/
theorem linesFrom_head (s a : ByteArray) (n : Nat) (hn : a.size = n + 1) (hle : a.size ≤ s.size) (hg : ∀ k, k < a.size → s.get! k = a.get! k) (hl : a.get! n = 10) (p : Nat) (hp : p ≤ a.size) :
    linesFrom s p = linesFrom a p ++ linesFrom s a.size := by
  generalize hm : a.size - p = m
  induction m using Nat.strongRecOn generalizing p with
  | ind m ih =>
    by_cases h : p < a.size
    · have q0 := lineTo_ge a p
      have q1 := lineTo_le a p hp
      have e10 : isEol 10 = true := by decide
      have q2 : lineTo a p < a.size := by
        rcases Nat.lt_or_ge (lineTo a p) a.size with h1 | h1
        · exact h1
        · have := lineTo_no a p n (by omega) (by omega)
          rw [hl, e10] at this; cases this
      have e1 : lineTo s p = lineTo a p := by
        refine lineTo_is s p _ q0 (by omega) (fun k k1 k2 => ?_) (fun _ => ?_)
        · rw [hg k (by omega)]; exact lineTo_no a p k k1 k2
        · rw [hg _ q2]; exact lineTo_eol a p q2
      have e2 : lineEnd s (lineTo s p) = lineEnd a (lineTo a p) := by
        rw [e1]
        have c : crlfAt s (lineTo a p) = crlfAt a (lineTo a p) := by
          unfold crlfAt
          rw [hg _ q2]
          by_cases hq : lineTo a p + 1 < a.size
          · rw [hg _ hq, decide_eq_true (show lineTo a p + 1 < s.size by omega), decide_eq_true hq]
          · have : lineTo a p = n := by omega
            rw [this, hl]
            have : ((10 : UInt8) == 13) = false := by decide
            rw [this]; simp
        unfold lineEnd
        rw [c, if_pos q2, if_pos (by omega)]
      have g := line_gt a p h
      have l := line_le a p hp
      rw [linesFrom_in s p (by omega), linesFrom_in a p h, e2, e1, ih (a.size - lineEnd a (lineTo a p)) (by omega) _ l rfl, List.cons_append]
    · have : p = a.size := by omega
      subst this
      rw [linesFrom_out a _ h, List.nil_append]

def LineP.shift (n : Nat) (l : LineP) : LineP := ⟨n + l.from_, n + l.to_, n + l.end_⟩
theorem linesFrom_tail (s b : ByteArray) (n : Nat) (hsz : s.size = n + b.size) (hg : ∀ k, k < b.size → s.get! (n + k) = b.get! k) (p : Nat) (hp : p ≤ b.size) :
    linesFrom s (n + p) = (linesFrom b p).map (LineP.shift n) := by
  generalize hm : b.size - p = m
  induction m using Nat.strongRecOn generalizing p with
  | ind m ih =>
    by_cases h : p < b.size
    · have q0 := lineTo_ge b p
      have q1 := lineTo_le b p hp
      have e1 : lineTo s (n + p) = n + lineTo b p := by
        refine lineTo_is s _ _ (by omega) (by omega) (fun k k1 k2 => ?_) (fun h1 => ?_)
        · have := hg (k - n) (by omega)
          rw [show n + (k - n) = k by omega] at this
          rw [this]; exact lineTo_no b p _ (by omega) (by omega)
        · rw [hg _ (by omega)]; exact lineTo_eol b p (by omega)
      have e2 : lineEnd s (lineTo s (n + p)) = n + lineEnd b (lineTo b p) := by
        rw [e1]
        unfold lineEnd
        by_cases hq : lineTo b p < b.size
        · rw [if_pos (by omega), if_pos hq]
          have c : crlfAt s (n + lineTo b p) = crlfAt b (lineTo b p) := by
            unfold crlfAt
            by_cases hq2 : lineTo b p + 1 < b.size
            · rw [hg _ hq, show n + lineTo b p + 1 = n + (lineTo b p + 1) by omega, hg _ hq2, decide_eq_true (show n + (lineTo b p + 1) < s.size by omega), decide_eq_true hq2]
            · rw [decide_eq_false (show ¬ n + lineTo b p + 1 < s.size by omega), decide_eq_false hq2]; simp
          rw [c]
          split <;> omega
        · rw [if_neg (by omega), if_neg hq]
      have g := line_gt b p h
      have l := line_le b p hp
      rw [linesFrom_in s _ (by omega), linesFrom_in b p h, e2, e1, ih (b.size - lineEnd b (lineTo b p)) (by omega) _ l rfl]
      rfl
    · rw [linesFrom_out b _ h, linesFrom_out s _ (by omega)]; rfl

/-- The lines of two texts with a byte 10 between. -/
theorem linesP_join (a b : ByteArray) : linesP (a ++ ⟨#[10]⟩ ++ b) = linesP (a ++ ⟨#[10]⟩) ++ (linesP b).map (LineP.shift (a.size + 1)) := by
  have z1 : (a ++ ⟨#[10]⟩ : ByteArray).size = a.size + 1 := by rw [ByteArray.size_append]; rfl
  have z2 : (a ++ ⟨#[10]⟩ ++ b).size = a.size + 1 + b.size := by rw [ByteArray.size_append, z1]
  have h1 := linesFrom_head (a ++ ⟨#[10]⟩ ++ b) (a ++ ⟨#[10]⟩) a.size z1 (by omega)
    (fun k hk => by rw [get_app _ _ k (by omega), if_pos hk]) (by rw [get_app a _ a.size (by show _ < _ + 1; omega), if_neg (by omega), Nat.sub_self]; rfl) 0 (Nat.zero_le _)
  have h2 := linesFrom_tail (a ++ ⟨#[10]⟩ ++ b) b (a.size + 1) z2
    (fun k hk => by rw [get_app _ _ _ (by omega), if_neg (by omega), z1]; congr 1; omega) 0 (Nat.zero_le _)
  rw [z1] at h1
  unfold linesP
  rw [h1, ← h2, Nat.add_zero]

/-- A slice of a row's first lines. -/
theorem LinesAt.first {w : World} {v : Value} {x y : List LineP} (h : LinesAt w v (x ++ y)) : ∃ a cap, v = .slice a (x ++ y).length cap ∧ (x ++ y).length ≤ cap ∧ (x ≠ [] → ∃ g, a = some ⟨g, 0, none⟩ ∧ g < w.heap.size ∧ ∀ k (h : k < (x ++ y).length), w.cell? ⟨g, k * 3, none⟩ = some (.int .i64 (x ++ y)[k].from_) ∧ w.cell? ⟨g, k * 3 + 1, none⟩ = some (.int .i64 (x ++ y)[k].to_) ∧ w.cell? ⟨g, k * 3 + 2, none⟩ = some (.int .i64 (x ++ y)[k].end_)) ∧ ∀ c, x.length ≤ c → LinesAt w (.slice a x.length c) x := by
  obtain ⟨a, cap, hv, hc, hr⟩ := h
  refine ⟨a, cap, hv, hc, fun hx => hr (by simp [hx]), fun c hcx => ⟨a, c, rfl, hcx, fun hx => ?_⟩⟩
  obtain ⟨g, ha, hg, hcell⟩ := hr (by simp [hx])
  refine ⟨g, ha, hg, fun k hk => ?_⟩
  have := hcell k (by rw [List.length_append]; omega)
  rw [List.getElem_append_left hk] at this
  exact this
end Go.Proofs.YtkomodicpfbkhaaDoor
