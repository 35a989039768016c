/-
  cut: the stack is cut; what is remembered of each kind is cut with it, while the map is ranged over. Conditions: bounds on sizes.
-/
import Derived.Test.YtnijcglmfpiheaaEmphOpen
import Derived.Lib.MinMax
set_option linter.unusedSimpArgs false
set_option linter.unusedVariables false
namespace Go.Proofs.Ytnijcglmfpiheaa
open Go.RowKit Go.Lib Go.WideMaps

/-- The map D on its way to where nothing is more than k: what is still to come may be so. -/
def CutI (D D' : DataW Unit) (left : Lit → Bool) (k : Nat) : Prop :=
  Maps.IsMap D' ∧ ∀ kl : Lit, ∃ b b' : Nat, D.atKey kl (.lit (.int .i64 0)) = .lit (.int .i64 (b : Int)) ∧ D'.atKey kl (.lit (.int .i64 0)) = .lit (.int .i64 (b' : Int)) ∧ b' ≤ b ∧ (left kl = false → b' ≤ k)
theorem cutI_start {l : List RunP} {stack : List Nat} {D : DataW Unit} (hD : Maps.IsMap D) (h : BotI l stack D) (k : Nat) : CutI D D (Maps.has D) k := ⟨hD, fun kl => by
  obtain ⟨b, h1, -, -⟩ := h kl
  refine ⟨b, b, h1, h1, Nat.le_refl _, fun hl => ?_⟩
  rw [Maps.atKey_of_not_has hl] at h1
  injection h1 with h1
  injection h1 with _ h1
  omega⟩
theorem cutI_nat {D D' : DataW Unit} {left : Lit → Bool} {k : Nat} (h : CutI D D' left k) {kl : Lit} {c : Int} (hc : ∀ zd, D'.atKey kl zd = .lit (.int .i64 c)) : ∃ b : Nat, c = (b : Int) ∧ min c (k : Int) = ((min b k : Nat) : Int) ∧ Maps.has D' kl = true := by
  obtain ⟨b, b', -, h2, -⟩ := h.2 kl
  rw [hc] at h2
  injection h2 with h2
  injection h2 with _ h2
  refine ⟨b', h2, by omega, ?_⟩
  cases hh : Maps.has D' kl with
  | true => rfl
  | false =>
    have e1 := hc (.lit (.int .i64 (c + 1)))
    rw [Maps.atKey_of_not_has hh] at e1
    injection e1 with e1
    injection e1 with _ e1
    omega
theorem cutI_step {D D' : DataW Unit} {left : Lit → Bool} {k b : Nat} (h : CutI D D' left k) {kl : Lit} (hk : WideAt.IsKeyLit kl) (hc : ∀ zd, D'.atKey kl zd = .lit (.int .i64 (b : Int))) : CutI D (D'.put kl (.lit (.int .i64 ((min b k : Nat) : Int)))) (fun z => left z && !z.sameKey kl) k := ⟨by
    obtain ⟨es, rfl⟩ := h.1; exact ⟨_, rfl⟩, fun kl' => by
  obtain ⟨b0, b1, h1, h2, h3, h4⟩ := h.2 kl'
  by_cases e : kl' = kl
  · subst e
    rw [hc] at h2
    injection h2 with h2
    injection h2 with _ h2
    exact ⟨b0, min b k, h1, Maps.atKey_put_same h.1 hk _ _, by omega, fun _ => by omega⟩
  · refine ⟨b0, b1, h1, by rw [Maps.atKey_put_other e]; exact h2, h3, fun hl => h4 ?_⟩
    cases hk' : left kl' with
    | false => rfl
    | true =>
      have hl : (left kl' && !kl'.sameKey kl) = false := hl
      rw [hk', Bool.true_and, Bool.not_eq_false'] at hl
      exact absurd (WideAt.sameKey_eq hl) e⟩
theorem cutI_end {l : List RunP} {stack : List Nat} {D D' : DataW Unit} {left : Lit → Bool} {k : Nat} (hk : k ≤ stack.length) (hB : BotI l stack D) (h : CutI D D' left k) (hl : ∀ kl, left kl = false) : BotI l (stack.take k) D' :=
  botI_cut hk hB fun kl => by
    obtain ⟨b0, b1, h1, h2, h3, h4⟩ := h.2 kl
    exact ⟨b0, b1, h1, h2, h3, h4 (hl kl)⟩
theorem ownsRow_take0 {w : World} {base n size cap : Nat} {a : Option Addr} {e : TypeId} {xs : List Value} (k : Nat) (hk : k ≤ n) (h : w.ownsRow base e size (.slice a n cap) n xs) : w.ownsRow base e size (.slice a k cap) k (xs.take (k * size)) := by
  rcases id h.2 with ⟨hv, h0⟩ | ⟨g, cap', cur, hv, -⟩
  · subst h0
    obtain rfl : k = 0 := by omega
    injection hv with h1 h2 h3
    subst h1 h3
    have := h.1
    rw [Nat.zero_mul] at this
    have : xs = [] := List.length_eq_zero_iff.1 this
    subst this
    rw [List.take_nil]
    exact h
  · injection hv with h1 h2 h3
    subst h1 h3
    exact ownsRow_take k hk h
theorem ownBlock_slice (a : Option Addr) (n m cap : Nat) : (Value.slice a n cap).ownBlock = (Value.slice a m cap).ownBlock := by
  cases a <;> rfl
/-- The stack is cut, and the map has turned. -/
theorem EmW.cut {N : Nat} {ro : Option Nat} {l : List RunP} {m : Nat} {R : Nat → Nat} {S B n : Nat} {s : StP} {w : World} (h : EmW N ro l m R S B n s w) {sa : Option Addr} {scap k : Nat} {vp : Value} (hk : k ≤ s.stack.length)
    (hS : w.heap[S]? = some (.cells #[.slice sa s.stack.length scap, .map (some B), vp] 79)) (hvs : w.ownsRow N 68 1 (.slice sa s.stack.length scap) s.stack.length (s.stack.map (ptrC R))) (hvp : w.ownsRow N 40 3 vp s.pairs.length (pairCells s.pairs))
    (hro : (Value.slice sa s.stack.length scap).ownBlock = none ∨ (Value.slice sa s.stack.length scap).ownBlock ≠ ro)
    {w1 w' : World} (e1 : w1.heap[S]? = some (.cells #[.slice sa k scap, .map (some B), vp] 79)) (e2 : w.grownBy w1 (some S)) (hg : w1.grownBy w' (some B)) {D : DataW Unit} (hD : w'.ownsMap Try.prog 92 (plainElem Try.prog 3) B n D) (hBI : BotI l (s.stack.take k) D) :
    EmW N ro l m R S B n { s with stack := s.stack.take k } w' ∧ KeepP N w w' := by
  obtain ⟨lS, lB, lR⟩ := h.lt
  obtain ⟨D0, hD0, -⟩ := h.bot
  have hSB : S ≠ B := map_notCells hD0 hS
  have keep : ∀ i, i < w.heap.size → i ≠ S → i ≠ B → w'.heap[i]? = w.heap[i]? := fun i hi h1 h2 => (hg.block i (Nat.lt_of_lt_of_le hi e2.size) fun e => h2 (Option.some.inj e)).trans (e2.block i hi fun e => h1 (Option.some.inj e))
  have hS' : w'.heap[S]? = some (.cells #[.slice sa k scap, .map (some B), vp] 79) := (hg.block S (Nat.lt_of_lt_of_le lS e2.size) fun e => hSB (Option.some.inj e)).trans e1
  have row : ∀ {v : Value} {e : TypeId} {sz c : Nat} {xs : List Value}, e ≠ 79 → w.ownsRow N e sz v c xs → w'.ownsRow N e sz v c xs := fun {v e sz c xs} hT hr => by
    have h1 : w1.ownsRow N e sz v c xs := by
      refine hr.kept e2 ?_
      cases hv : v.ownBlock with
      | none => exact .inl rfl
      | some g =>
        obtain ⟨cs, fz, hc⟩ := ownsRow_typed hr g hv
        exact .inr fun e1 => cells_unlike hc hS hT (Option.some.inj e1)
    refine h1.kept hg ?_
    cases hv : v.ownBlock with
    | none => exact .inl rfl
    | some g =>
      obtain ⟨cs, fz, hc⟩ := ownsRow_typed hr g hv
      exact .inr fun e1 => map_notCells hD0 hc (Option.some.inj e1)
  refine ⟨⟨h.nS, h.nB, h.nR, h.inj, fun i hi => (keep _ (lR i hi) (cells_unlike (h.row i hi) hS (by decide)) (map_notCells hD0 (h.row i hi))).trans (h.row i hi), ⟨_, vp, hS', ?_, row (by decide) hvp, ?_⟩, D, hD, hBI⟩, ⟨⟨hg.os.trans e2.os, hg.tape.trans e2.tape, hg.output.trans e2.output, Nat.le_trans e2.size hg.size, fun i hi => keep i (by have := h.nS; omega) (by have := h.nS; omega) (by have := h.nB; omega)⟩, fun i cs T fr hT hi => (keep i (Array.getElem?_eq_some_iff.1 hi).1 (cells_unlike hi hS (by rcases hT with rfl | rfl <;> decide)) (map_notCells hD0 hi)).trans hi⟩⟩
  · have := ownsRow_take0 k hk (row (by decide) hvs)
    rw [Nat.mul_one, ← List.map_take] at this
    show w'.ownsRow N _ 1 _ (s.stack.take k).length _
    rw [List.length_take, Nat.min_eq_left hk]
    exact this
  · rw [ownBlock_slice sa k s.stack.length scap]; exact hro
theorem set_grown (w : World) (b i : Nat) (v : Value) : w.grownBy (w.setCell ⟨b, i, none⟩ v) (some b) :=
  ⟨rfl, rfl, rfl, by simp [World.setCell], fun k _ hk => Below.heap_setCell _ _ _ k (fun e => hk (by rw [e]))⟩
theorem block_set {w : World} {b i : Nat} {cs : Array Value} {T : TypeId} {fr : Nat × Nat} (h : w.heap[b]? = some (.cells cs T fr)) (v : Value) : (w.setCell ⟨b, i, none⟩ v).heap[b]? = some (.cells (cs.setIfInBounds i v) T fr) := by
  simp only [World.setCell, Array.getElem?_modify, h]
  simp

set_option maxRecDepth 100000 in
set_option maxHeartbeats 16000000 in
theorem cut_any {N : Nat} {ro : Option Nat} {l : List RunP} {m : Nat} {R : Nat → Nat} {S B n : Nat} {s : StP} (k : Nat) (hk : k ≤ s.stack.length) (hsl : s.stack.length ≤ 1000000) (w : World) (h : EmW N ro l m R S B n s w) :
    Calls Try.prog 47 #[.pointer (some ⟨S, 0, none⟩), .int .i64 k] w fun e w' => e = .returned (.tuple #[]) ∧ EmW N ro l m R S B n { s with stack := s.stack.take k } w' ∧ KeepP N w w' := by
  have mixed : Try.prog.follows Departure.mixedOrders = true := rfl
  obtain ⟨lS, lB, lR⟩ := h.lt
  obtain ⟨vs, vp, hS, hvs, hvp, hro⟩ := h.sol
  obtain ⟨D, hD, hBI⟩ := h.bot
  obtain ⟨sa, scap, rfl, hcap⟩ := ownsRow_slice hvs
  have hSB : S ≠ B := map_notCells hD hS
  obtain ⟨s0, s1, s2, -, -, -⟩ := block_three hS
  have hkL : (k : Int) ≤ (scap : Int) := by omega
  have HEND : RowKit.Hid (∀ w1 wf D' (left : Lit → Bool), w1.heap[S]? = some (.cells #[.slice sa k scap, .map (some B), vp] 79) → w.grownBy w1 (some S) → w1.grownBy wf (some B) → wf.ownsMap Try.prog 92 (plainElem Try.prog 3) B n D' → CutI D D' left k → (∀ kl, left kl = false) → EmW N ro l m R S B n { s with stack := s.stack.take k } wf ∧ KeepP N w wf) := fun w1 wf D' left e1 e2 e3 e4 e5 e6 => h.cut hk hS hvs hvp hro e1 e2 e3 e4 (cutI_end hk hBI e5 e6)
  have HD := Lib.hid hD
  have HST := Lib.hid (cutI_start (hD.tidy kindLaw).isMap hBI k)
  clear h hvs hvp hro hD hBI hcap
  have e1 : (w.setCell ⟨S, 0, none⟩ (.slice sa k scap)).heap[S]? = some (.cells #[.slice sa k scap, .map (some B), vp] 79) := block_set hS _
  have e2 := set_grown w S 0 (.slice sa k scap)
  have hD1 : (w.setCell ⟨S, 0, none⟩ (.slice sa k scap)).ownsMap Try.prog 92 (plainElem Try.prog 3) B n D := HD.out.kept e2 (fun e => hSB (Option.some.inj e).symm)
  have hfz : w.frozen? ⟨S, 0, none⟩ = false := by simp [World.frozen?, hS]
  have E1 := Lib.hid e1
  have E2 := Lib.hid e2
  clear hS e1 e2 HD
  go_enter Try.func47, Try.ntmps47
  go_wp2_with (first
    | (at_range; refine wpList_range_own _ rfl _ 77 rfl 92 3 kindLaw Try.underlying77 _ B n D rfl hD1 ?_; intro w0 hrg0 hg0 hs0)
    | fail)
  go_frame
  generalize w.setCell ⟨S, 0, none⟩ (.slice sa k scap) = w1 at *
  have hsz := hg0.size
  go_loopw [4, 5] (fun _ _ wr => ∃ (D' : DataW Unit) (left : Lit → Bool) (cnt : Nat), wr.ranges Try.prog 92 (plainElem Try.prog 3) B w1.heap.size n D' left cnt ∧ w1.grownBy wr (some B) ∧ RowKit.Hid (CutI D D' left k)) (fun _ _ wr => wr.rangeLeft B w1.heap.size)
  case atStart => exact ⟨_, _, _, hrg0, hg0.but _, HST.out⟩
  case round =>
    clear s0 s1 s2 hfz hrg0 hg0 hs0 hsz hD1
    obtain ⟨D', left, cnt, hrg, hgw, HC⟩ := hrel
    go_wp2_with (first
      | (at_next; refine wpList_next_ranges _ rfl _ rfl 92 kindLaw (plainElem Try.prog 3) (fun x : Int × Bool × Int => .agg #[.int .u8 x.1, .bool x.2.1, .int .i64 x.2.2]) (Value.int .i64) (fun key kl h => kind_inv h) (fun v y hv => by obtain ⟨c, rfl, _⟩ := plainElem_int_inv Try.underlying3 hv; exact ⟨c, rfl⟩) B w1.heap.size n _ _ _ rfl hrg (fun _ hl0 => ?_) (fun x c kl y w2 cnt1 hkey hlx hv hat hrg1 hlt hg1 hs1 hen => ?_))
      | fail)
    · have hE := HEND.out w1 wr D' left E1.out E2.out hgw hrg.owns HC.out hl0
      go_end0
      exact ⟨rfl, hE⟩
    · have hgw1 := hgw.andThen hg1 (fun j hj => by cases hj; exact Or.inl (Nat.le_refl _))
      obtain ⟨c', ec, rfl, hwc⟩ := plainElem_int_inv Try.underlying3 hv
      cases ec
      obtain ⟨b, rfl, hmin, hhas⟩ := cutI_nat HC.out hat
      have hst := cutI_step HC.out (kindLaw.key hkey) hat
      rw [← hmin] at hst
      have hwm : (Lit.int .i64 (min (b : Int) (k : Int))).wf = true := by rw [hmin]; exact WalkArith.wf_i64 ⟨by omega, by omega⟩
      have hWd : ∀ o, (w2.alloc o).drew.ranges Try.prog 92 (plainElem Try.prog 3) B w1.heap.size n D' (fun z => left z && !z.sameKey kl) cnt1 := fun o => hrg1.alloc o
      have hGd : ∀ o, w1.grownBy (w2.alloc o).drew (some B) := fun o => by
        have h := hgw1.andThen (World.grownBy_alloc w2 o (some B)) (fun j hj => Or.inr hj)
        exact ⟨h.os, h.tape, h.output, h.size, h.block⟩
      have HWD := Lib.hid (hWd (.cells #[.int .u8 x.1, .bool x.2.1, .int .i64 x.2.2] 92))
      have HGD := Lib.hid (hGd (.cells #[.int .u8 x.1, .bool x.2.1, .int .i64 x.2.2] 92))
      have HKEY := Lib.hid hkey
      have HSTP := Lib.hid hst
      have HRG := Lib.hid hrg
      have hS2 : w2.heap[S]? = some (.cells #[.slice sa k scap, .map (some B), vp] 79) := (hgw1.block S (Array.getElem?_eq_some_iff.1 E1.out).1 fun e => hSB (Option.some.inj e)).trans E1.out
      have hnew := heap_alloc_new w2 (.cells #[.int .u8 x.1, .bool x.2.1, .int .i64 x.2.2] 92)
      rw [hs1] at hnew
      have hSW := (heap_alloc_old w2 (.cells #[.int .u8 x.1, .bool x.2.1, .int .i64 x.2.2] 92) (Array.getElem?_eq_some_iff.1 hS2).1).trans hS2
      obtain ⟨-, s1, -⟩ := block_three hSW
      obtain ⟨k0, k1, k2, -⟩ := block_three hnew
      clear hgw hgw1 hg1 hs1 hrg1 hkey hrg hv hat hwc hst hWd hGd hS2 hnew hSW hmin hlx HEND HC HST E1 E2 hen
      go_wp2_with fail
      generalize w2.alloc (.cells #[.int .u8 x.1, .bool x.2.1, .int .i64 x.2.2] 92) = W at *
      go_still_tail 8, (by kernel_rfl)
      change wpList _ _ _ _ _ W.drew
      refine wpList_update_ranges _ rfl _ _ _ 77 rfl 92 3 kindLaw Try.underlying77 (plainElem Try.prog 3) B w1.heap.size n D' _ cnt1 rfl HWD.out (.agg #[.int .u8 x.1, .bool x.2.1, .int .i64 x.2.2]) (.int .i64 (min (b : Int) (k : Int))) kl rfl rfl HKEY.out (.lit (.int .i64 (min (b : Int) (k : Int)))) [] (plainElem_int Try.underlying3 hwm) hhas ?_
      intro w9 hr9 hg9 hs9
      have hgf := HGD.out.andThen hg9 (fun j hj => Or.inr hj)
      have HR9 := Lib.hid hr9
      have HGF := Lib.hid hgf
      clear hr9 hgf hg9 hs9
      go_frame
      go_wp2_with fail
      go_roundw
      case rel => exact ⟨_, _, cnt1, HR9.out, HGF.out, HSTP.out⟩
      case measure => rw [HR9.out.left_eq, HRG.out.left_eq]; exact hlt
end Go.Proofs.Ytnijcglmfpiheaa
