/- Slices of numbers and of strings, as a law copies, measures, compares and marks them: in one shape with slices of structs. -/
import Derived.Test.YtkglfmgmmnfmbaaGreatDoorGa6
import Derived.Test.YtkglfmgmmnfmbaaGreatDoorL8a
set_option linter.unusedVariables false
namespace Go.Proofs.YtkglfmgmmnfmbaaGreatDoor
open Go.RowKit

theorem str_to (A : Option Addr) (c : Nat) (l : List ByteArray) (w : World) (hs : Sl w encS 1 A l) (hl : l.length ≤ 16777216) :
    Calls Tryz.prog 18 #[.slice A l.length c] w (OwnRes 9 1 encS l w) := toStringS_any A c l w hs hl
def StrFit (l : List ByteArray) : Prop := ∀ s ∈ l, s.size ≤ 1048576
theorem str_sz (A : Option Addr) (c : Nat) (l : List ByteArray) (left : Int) (w : World) (hs : Sl w encS 1 A l) (hl : l.length ≤ maxLen) (hm : ∀ s ∈ l, s.size ≤ maxLen) (h0 : 0 ≤ left) (h1 : left ≤ 1048576) :
    Calls Tryz.prog 16 #[.slice A l.length c, .int .i64 left] w fun e w' => ∃ r : Int, e = .returned (.int .i64 r) ∧ r ≤ 1048576 ∧ (0 ≤ r → l.length ≤ 1048576 ∧ StrFit l) ∧ Below w.heap.size w w' :=
  (szStringS_any A c l left w hs hl hm h0 h1).mono fun _ _ ⟨r, h, h2, h3, e⟩ => ⟨r, h, h2, h3, e ▸ Below.refl _ _⟩
theorem str_eq2 (A B : Option Addr) (c d : Nat) (l : List ByteArray) (w : World) (ha : Sl w encS 1 A l) (hb : Sl w encS 1 B l) (hl : l.length ≤ 16777216) :
    Calls Tryz.prog 20 #[.slice A l.length c, .slice B l.length d] w fun e w' => e = .returned (.bool true) ∧ Below w.heap.size w w' :=
  (l_eqStringS_same A B c d l w ha hb hl).mono fun _ _ ⟨h, hd⟩ => ⟨h, hd.below⟩
/-! ### marks of strings -/
def markStrL (k n : Nat) : List ByteArray := (List.range n).map fun j => mk (markT (k + j))
theorem markStrL_len (k n : Nat) : (markStrL k n).length = n := by simp [markStrL]
theorem markStrL_succ (k n : Nat) : markStrL k (n + 1) = markStrL k n ++ [mk (markT (k + n))] := by simp [markStrL, List.range_succ]
theorem markStrL_at {k n j : Nat} (h : j < n) : (markStrL k n)[j]'(by rw [markStrL_len]; exact h) = mk (markT (k + j)) := by simp [markStrL]
set_option maxHeartbeats 4000000 in
set_option maxRecDepth 100000 in
theorem markStringS_any (base : Nat) (v : Value) (l : List ByteArray) (k : Nat) (w : World) (h : Own w base 9 1 encS v l) (hl : l.length ≤ 16777216) (hk : k ≤ 100000000) :
    Calls Tryz.prog 21 #[v, .int .i64 k] w (Marked 9 1 encS base v (markStrL k l.length) (k + l.length) w) := by
  by_cases h0 : 0 < l.length
  · obtain ⟨g, cap, rfl, hg, hlc, hcm, hf⟩ := h.row h0
    have HF := Lib.hid hf
    have hcm' := hcm
    unfold maxLen at hcm'
    clear hf h
    go_enter Tryz.func21, Tryz.ntmps21
    go_wp2
    go_loopw [1, 5] (fun sk si wr => ∃ (j K : Nat), j ≤ l.length ∧ si = .int .i64 (j : Int) ∧ sk = .int .i64 (K : Int) ∧ Hid (K = k + j) ∧ K ≤ 300000000 ∧ Filled wr g (cap * 1) 9 (flat encS (markStrL k j)) ∧ Grew (.slice (some ⟨g, 0, none⟩) l.length cap) w wr) (fun _ si _ => l.length - (intOf si).toNat)
    case atStart => exact ⟨0, k, Nat.zero_le _, rfl, rfl, rfl, by omega, HF.out, Grew.refl _ _⟩
    case round =>
      obtain ⟨j, K, hj, rfl, rfl, hK, hKb, hf, hg2⟩ := hrel
      by_cases hlt : j < l.length
      · have hlen : (flat encS (markStrL k j)).length = j := by rw [flatS_len, markStrL_len]
        have HF0 := Lib.hid hf
        have HG0 := Lib.hid hg2
        have HLN := Lib.hid hlen
        clear hlen hf hg2
        go_wp2_with fail
        refine (markText_any K _ (by omega)).mono ?_
        rintro e w2 ⟨rfl, hb2⟩
        have HF2 := Lib.hid (HF0.out.below hb2)
        have HG2 := Lib.hid (HG0.out.trans (Grew.below hb2))
        clear hb2
        obtain ⟨u, hu⟩ := HF2.out.cell (j := j) (by omega)
        have hfr := HF2.out.free j
        have hst := HF2.out.store (.string (mk (markT K))) (by rw [HLN.out]; omega)
        rw [HLN.out, show flat encS (markStrL k j) ++ [Value.string (mk (markT K))] = flat encS (markStrL k (j + 1)) from by rw [markStrL_succ, flat_snoc, ← hK.out]; rfl] at hst
        have HST := Lib.hid hst
        clear hst
        go_wp2
        go_roundw
        case rel => exact ⟨j + 1, K + 1, by omega, by go_num, by go_num, by show _ = _; rw [hK.out]; omega, by have := hK.out; omega, HST.out, HG2.out.set rfl _⟩
        case measure => simp [intOf]; omega
      · have hjl : j = l.length := by omega
        subst hjl
        have HG2 := Lib.hid hg2
        have HF2 := Lib.hid hf
        clear hg2 hf
        go_wp2
        go_ret
        have ho := HF2.out.ownc (base := base) (fun _ => rfl) hg hcm (by rw [markStrL_len]; exact hlc)
        rw [markStrL_len] at ho
        exact ⟨ret_int (by rw [hK.out]), ho, HG2.out⟩
  · have hz : l.length = 0 := by omega
    obtain ⟨A, c, hv, _, _, _⟩ := h.sl
    subst hv
    rw [hz] at h ⊢
    have H := Lib.hid h
    clear h
    go_enter Tryz.func21, Tryz.ntmps21
    go_wp2
    go_loopw [1, 5] (fun sk si wr => si = .int .i64 0 ∧ sk = .int .i64 (k : Int) ∧ w = wr) (fun _ _ _ => 0)
    case atStart => exact ⟨rfl, rfl, rfl⟩
    case round =>
      obtain ⟨rfl, rfl, rfl⟩ := hrel
      go_wp2
      go_ret
      exact ⟨rfl, H.out.empty hz (by rw [markStrL_len]), Grew.refl _ _⟩
set_option maxHeartbeats 4000000 in
set_option maxRecDepth 100000 in
theorem heldStringS_any (A : Option Addr) (c : Nat) (k n : Nat) (w : World) (hs : Sl w encS 1 A (markStrL k n)) (hn : n ≤ 16777216) (hk : k ≤ 100000000) :
    Calls Tryz.prog 22 #[.slice A n c, .int .i64 k] w fun e w' => e = .returned (.int .i64 ((k + n : Nat) : Int)) ∧ Below w.heap.size w w' := by
  have HS := Lib.hid hs
  clear hs
  go_enter Tryz.func22, Tryz.ntmps22
  go_wp2
  go_loopw [1, 5] (fun sk si wr => ∃ (j K : Nat), j ≤ n ∧ si = .int .i64 (j : Int) ∧ sk = .int .i64 (K : Int) ∧ Hid (K = k + j) ∧ K ≤ 300000000 ∧ Below w.heap.size w wr) (fun _ si _ => n - (intOf si).toNat)
  case atStart => exact ⟨0, k, Nat.zero_le _, rfl, rfl, rfl, by omega, Below.refl _ _⟩
  case round =>
    obtain ⟨j, K, hj, rfl, rfl, hK, hKb, hb⟩ := hrel
    have HB0 := Lib.hid hb
    clear hb
    by_cases hlt : j < n
    · have hat := markStrL_at (k := k) hlt
      rw [← hK.out] at hat
      obtain ⟨b, o, rfl, hc⟩ := (HS.out.below HB0.out).getS (k := j) (by rw [markStrL_len]; exact hlt)
      rw [hat] at hc
      clear hat
      replace hc := far_cell hc
      go_wp2
      refine wp_region_far (by kernel_rfl) (by kernel_rfl) ?_
      repeat (go_big_quiet_step ((go_at_call 61; exact far_call (markText_any K _ (by omega)))))
      refine wpQuiet_nil ?_
      intro _ hwF
      obtain ⟨pF, hwF⟩ := hwF
      subst hwF
      have HB2 := Lib.hid (Below_then HB0.out (far_below _ pF) (Nat.le_refl _))
      generalize far _ pF = wF at *
      clear hc
      go_wp2
      go_roundw
      case rel => exact ⟨j + 1, K + 1, by omega, by go_num, by go_num, by show _ = _; rw [hK.out]; omega, by have := hK.out; omega, HB2.out⟩
      case measure => simp [intOf]; omega
    · have hjl : j = n := by omega
      subst hjl
      go_wp2
      go_ret
      exact ⟨ret_int (by rw [hK.out]), HB0.out⟩
end Go.Proofs.YtkglfmgmmnfmbaaGreatDoor
