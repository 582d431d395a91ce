/- Marks that a law writes into slices, and looks for afterwards. -/
import Derived.Test.YtjadgjlidejjpaaDoorAp
import Derived.Test.YtjadgjlidejjpaaDoorFar
import Derived.Test.YtjadgjlidejjpaaDoorSl
import Derived.Test.YtjadgjlidejjpaaDoorW2
set_option linter.unusedVariables false
namespace Go.Proofs.YtjadgjlidejjpaaDoor
open Go.RowKit

/-! ### plain -/
def dgo : Nat → Nat → Bs → Bs
  | 0, _, acc => acc
  | f + 1, k, acc => if k = 0 then acc else dgo f (k / 10) (UInt8.ofNat (48 + k % 10) :: acc)
def markT (k : Nat) : Bs := if k = 0 then [109, 48] else 109 :: dgo k k []
def MarkAt (k0 : Nat) (acc : Bs) (K : Nat) : Prop := ∃ f, K ≤ f ∧ dgo k0 k0 [] = dgo f K acc
theorem MarkAt.start (k0 : Nat) : MarkAt k0 [] k0 := ⟨k0, Nat.le_refl _, rfl⟩
theorem MarkAt.step {k0 : Nat} {acc : Bs} {K : Nat} (h : MarkAt k0 acc K) (hK : 0 < K) : MarkAt k0 (UInt8.ofNat (48 + K % 10) :: acc) (K / 10) := by
  obtain ⟨f, hf, e⟩ := h
  cases f with
  | zero => omega
  | succ f => exact ⟨f, by omega, by rw [e, dgo, if_neg (by omega)]⟩
theorem MarkAt.done {k0 : Nat} {acc : Bs} {K : Nat} (h : MarkAt k0 acc K) (hK : ¬ 0 < K) : dgo k0 k0 [] = acc := by
  obtain ⟨f, hf, e⟩ := h
  have : K = 0 := by omega
  subst this
  rw [e]
  cases f with
  | zero => rfl
  | succ f => rw [dgo, if_pos rfl]
theorem markT_pos {k : Nat} (h : 0 < k) : markT k = 109 :: dgo k k [] := by unfold markT; rw [if_neg (by omega)]
theorem markT_zero : markT 0 = [109, 48] := rfl

/-! ### memory -/
theorem Own.grew {α : Type} {enc : α → List Value} {w w' : World} {base size : Nat} {E : TypeId} {u v : Value} {l : List α} (h : Own w base E size enc u l) (hg : Grew v w w') (hne : ∀ g, u.ownBlock = some g → v.ownBlock ≠ some g) : Own w' base E size enc u l := by
  refine World.ownsRow.kept h (row := v.ownBlock) hg ?_
  cases hu : u.ownBlock with
  | none => exact .inl rfl
  | some k => right; intro e; exact hne k hu e.symm
theorem Grew.below {w w' : World} {v : Value} (h : Below w.heap.size w w') : Grew v w w' := ⟨h.os, h.tape, h.output, h.size, fun k hk _ => h.block k hk⟩
theorem Grew.refl (v : Value) (w : World) : Grew v w w := ⟨rfl, rfl, rfl, Nat.le_refl _, fun _ _ _ => rfl⟩
theorem Grew.trans {v : Value} {w w1 w2 : World} (h : Grew v w w1) (h2 : Grew v w1 w2) : Grew v w w2 :=
  ⟨h2.os.trans h.os, h2.tape.trans h.tape, h2.output.trans h.output, Nat.le_trans h.size h2.size, fun k hk hne => (h2.block k (Nat.lt_of_lt_of_le hk h.size) hne).trans (h.block k hk hne)⟩
theorem Grew.set {v : Value} {w w1 : World} (h : Grew v w w1) {g o : Nat} (hv : v.ownBlock = some g) (u : Value) : Grew v w (w1.setCell ⟨g, o, none⟩ u) :=
  h.trans ⟨rfl, rfl, rfl, by simp [World.setCell], fun k hk hne => Below.heap_setCell _ _ _ _ (by rintro rfl; exact hne (by rw [hv]))⟩
/-- Below a base that is not above what v owns, nothing has turned. -/
theorem Grew.under {v : Value} {w0 w w' : World} (h : Grew v w w') (hb : Below w0.heap.size w0 w) (hv : ∀ g, v.ownBlock = some g → w0.heap.size ≤ g) : Below w0.heap.size w0 w' :=
  hb.trans ⟨h.os, h.tape, h.output, h.size, fun k hk => h.block k (Nat.lt_of_lt_of_le hk hb.size) (fun e => by have := hv k e.symm; omega)⟩
/-- A row that is owned, ready to be written anew. -/
theorem Own.row {α : Type} {enc : α → List Value} {w : World} {base size : Nat} {E : TypeId} {v : Value} {l : List α} (h : Own w base E size enc v l) (hl : 0 < l.length) :
    ∃ g cap, v = .slice (some ⟨g, 0, none⟩) l.length cap ∧ base ≤ g ∧ l.length ≤ cap ∧ cap ≤ maxLen ∧ Filled w g (cap * size) E [] := by
  rcases h.2 with ⟨hv, hn⟩ | ⟨g, cap, cur, hv, hg, hh, hnc, hcm, hsz, ht⟩
  · omega
  · exact ⟨g, cap, hv, hg, hnc, hcm, cur, hh, hsz, Nat.zero_le _, rfl⟩
theorem Filled.ownc {α : Type} {enc : α → List Value} {wr : World} {g cap : Nat} {E : TypeId} {l : List α} {size base : Nat} (h : Filled wr g (cap * size) E (flat enc l)) (he : ∀ x, (enc x).length = size) (hb : base ≤ g) (hm : cap ≤ maxLen) (hl : l.length ≤ cap) :
    Own wr base E size enc (.slice (some ⟨g, 0, none⟩) l.length cap) l := by
  obtain ⟨cs, hg, hs, hd, ht⟩ := h
  refine ⟨flat_length he l, .inr ⟨g, cap, cs, rfl, hb, hg, hl, hm, hs, ?_⟩⟩
  rw [← flat_length he l]; exact ht
theorem own_of_slice (g o n c : Nat) : (Value.slice (some ⟨g, o, none⟩) n c).ownBlock = some g := rfl

/-! ### walks -/
set_option maxHeartbeats 2000000 in
set_option maxRecDepth 100000 in
theorem markText_any (k : Nat) (w : World) (hk : k ≤ 1000000000) :
    Calls Tryd.prog 20 #[.int .i64 k] w fun e w' => e = .returned (.string (mk (markT k))) ∧ Below w.heap.size w w' := by
  by_cases h0 : 0 < k
  · rw [markT_pos h0]
    have hd : decide (k = 0) = false := decide_eq_false (by omega)
    have hd2 : decide (k ≤ 0) = false := decide_eq_false (by omega)
    have hd3 : decide ((k : Int) ≤ 0) = false := decide_eq_false (by omega)
    go_enter Tryd.func20, Tryd.ntmps20
    go_wp2
    go_loopw [0, 3] (fun sk so wr => ∃ (K : Nat) (acc : Bs), sk = .int .i64 (K : Int) ∧ so = .string (mk acc) ∧ acc.length + K ≤ k ∧ Hid (MarkAt k acc K) ∧ Below w.heap.size w wr) (fun sk _ _ => (intOf sk).toNat)
    case atStart => exact ⟨k, [], rfl, rfl, by simp, MarkAt.start k, Below.refl _ _⟩
    case round =>
      obtain ⟨K, acc, rfl, rfl, hal, hm, hb⟩ := hrel
      by_cases hK : 0 < K
      · have hst := hm.out.step hK
        have HM := Lib.hid hst
        have hcv := fun wx => conv_one wx (48 + (K : Int) % 10) (by omega) (by omega)
        have e2 : (48 + (K : Int) % 10).toNat = 48 + K % 10 := by omega
        rw [e2] at hcv
        clear e2 hst hm
        generalize UInt8.ofNat (48 + K % 10) = d at *
        have z1 : (mk acc).size ≤ 2000000000 := by rw [mk_size]; omega
        have z2 : (mk [d]).size ≤ 1 := by rw [mk_size]; simp
        go_wp2
        go_roundw
        case rel => exact ⟨K / 10, d :: acc, by go_num, by rw [mk_append]; rfl, by simp; omega, HM.out, hb.alloc hb.size _⟩
        case measure => simp [intOf]; omega
      · have hd := hm.out.done hK
        have HD := Lib.hid hd
        have hK0 : K = 0 := by omega
        subst hK0
        clear hm hd
        have z1 : (mk acc).size ≤ 2000000000 := by rw [mk_size]; omega
        go_wp2
        go_ret
        exact ⟨ret_str (by rw [HD.out]; exact mk_append _ _), hb⟩
  · have hk0 : k = 0 := by omega
    subst hk0
    rw [markT_zero]
    go_enter Tryd.func20, Tryd.ntmps20
    go_wp2
    go_ret
    exact ⟨rfl, Below.refl _ _⟩

/-! ### numbers -/
def cntI (k n : Nat) : List Int := (List.range n).map fun j => ((k + j : Nat) : Int)
theorem cntI_len (k n : Nat) : (cntI k n).length = n := by simp [cntI]
theorem cntI_succ (k n : Nat) : cntI k (n + 1) = cntI k n ++ [((k + n : Nat) : Int)] := by simp [cntI, List.range_succ]
theorem cntI_at {k n j : Nat} (h : j < n) : (cntI k n)[j]'(by rw [cntI_len]; exact h) = ((k + j : Nat) : Int) := by simp [cntI]
theorem flatI_len (l : List Int) : (flat encI l).length = l.length := by rw [flat_length (size := 1) (fun _ => rfl), Nat.mul_one]
def Marked {α : Type} (E : TypeId) (size : Nat) (enc : α → List Value) (base : Nat) (v : Value) (l' : List α) (r : Nat) (w : World) (e : Ending) (w' : World) : Prop :=
  e = .returned (.int .i64 (r : Int)) ∧ Own w' base E size enc v l' ∧ Grew v w w'
theorem Own.empty {α : Type} {enc : α → List Value} {w : World} {base size : Nat} {E : TypeId} {v : Value} {l l' : List α} (h : Own w base E size enc v l) (hl : l.length = 0) (hl' : l'.length = 0) : Own w base E size enc v l' := by
  have e1 : l = [] := List.eq_nil_of_length_eq_zero hl
  have e2 : l' = [] := List.eq_nil_of_length_eq_zero hl'
  rw [e2]; rw [e1] at h; exact h
end Go.Proofs.YtjadgjlidejjpaaDoor
