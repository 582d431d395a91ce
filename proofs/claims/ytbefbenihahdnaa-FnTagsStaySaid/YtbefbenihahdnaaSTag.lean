/- Tags: copies, sizes, comparisons and marks of their slices, as laws make them. Written by structgen.py. -/
import Derived.Test.YtbefbenihahdnaaSt
set_option linter.unusedVariables false
namespace Go.Proofs.Ytbefbenihahdnaa
open Go.RowKit

theorem encT_info : (Try.prog.info? 77).map (fun i => (i.zero, i.size, i.bytes)) = some (some (.agg #[.string ⟨#[]⟩, .int .i64 0, .int .i64 0, .int .i64 0]), 4, 40) := by kernel_rfl
set_option maxHeartbeats 4000000 in
set_option maxRecDepth 100000 in
theorem toTag1 (a0 : ByteArray) (a1 : Int) (a2 : Int) (a3 : Int) (w : World) :
    Calls Try.prog 96 #[.agg #[.string a0, .int .i64 a1, .int .i64 a2, .int .i64 a3]] w fun e w' => e = .returned (.agg #[.string a0, .int .i64 a1, .int .i64 a2, .int .i64 a3]) ∧ Below w.heap.size w w' := by
  go_enter Try.func96, Try.ntmps96
  go_wp2
  exact bodyPost_ret (v := .agg #[.string a0, .int .i64 a1, .int .i64 a2, .int .i64 a3]) (by simp [results, Try.results96, go_sem]) rfl ⟨rfl, below3 _ _ _⟩
set_option maxHeartbeats 4000000 in
set_option maxRecDepth 100000 in
theorem toTagS_any (A : Option Addr) (c : Nat) (l : List Tg) (w : World) (hs : Sl w encT 4 A l) (hl : l.length ≤ 16777216) :
    Calls Try.prog 108 #[.slice A l.length c] w (OwnRes 77 4 encT l w) := by
  obtain ⟨i0, hi0, hz0, hz1, hz2⟩ := info_parts encT_info
  have hmk := make_row (P := Try.prog) 98 77 i0 _ Try.underlying98 hi0 hz0 l.length hl (by omega)
  rw [hz1] at hmk
  have hfl := fun W : World => Filled.made W (Value.agg #[.string ⟨#[]⟩, .int .i64 0, .int .i64 0, .int .i64 0]).cells (l.length * 4) 77
  have HFL := Lib.hid hfl
  have HS := Lib.hid hs
  clear hs hfl hi0 hz0 hz1 hz2
  generalize madeCells (Value.agg #[.string ⟨#[]⟩, .int .i64 0, .int .i64 0, .int .i64 0]).cells (l.length * 4) = M at *
  go_enter Try.func108, Try.ntmps108
  go_wp2
  clear hmk
  go_loopw [4] (fun i wr => ∃ (k : Nat), k ≤ l.length ∧ i = .int .i64 k ∧ Filled wr w.heap.size (l.length * 4) 77 (flat encT (l.take k)) ∧ Below w.heap.size w wr) (fun i _ => l.length - (intOf i).toNat)
  case atStart => exact ⟨0, Nat.zero_le _, rfl, HFL.out w, (Below.refl _ _).alloc (Nat.le_refl _) _⟩
  case round =>
    obtain ⟨k, hk, rfl, hf, hb⟩ := hrel
    by_cases hlt : k < l.length
    · obtain ⟨b, o, rfl, hc0, hc1, hc2, hc3⟩ := (HS.out.below hb).getT hlt
      have hlen : (flat encT (l.take k)).length = k * 4 := by rw [flat_length (size := 4) (fun _ => rfl), List.length_take]; omega
      have HF := Lib.hid hf
      have HB := Lib.hid hb
      clear hf hb
      have hsucc : flat encT (l.take (k + 1)) = flat encT (l.take k) ++ encT l[k] := by rw [List.take_succ_eq_append_getElem hlt, flat_snoc]
      have HSC := Lib.hid hsucc
      have HLN := Lib.hid hlen
      clear hsucc hlen
      generalize l[k] = p at *
      go_wp2_with fail
      refine (toTag1 _ _ _ _ _).mono ?_
      rintro e w2 ⟨rfl, hb2⟩
      have hf2 := HF.out.below hb2
      have HB2 := Lib.hid (HB.out.trans (hb2.mono HB.out.size))
      clear hb2
      have HST := Lib.hid (hf2.stores (encT p) (by rw [HLN.out]; simp [encT]; omega))
      obtain ⟨u0, hu0⟩ := hf2.cell (j := k * 4) (by omega)
      have hr0 := hf2.free (k * 4)
      obtain ⟨u1, hu1⟩ := hf2.cell (j := k * 4 + 1) (by omega)
      have hr1 := hf2.free (k * 4 + 1)
      obtain ⟨u2, hu2⟩ := hf2.cell (j := k * 4 + 2) (by omega)
      have hr2 := hf2.free (k * 4 + 2)
      obtain ⟨u3, hu3⟩ := hf2.cell (j := k * 4 + 3) (by omega)
      have hr3 := hf2.free (k * 4 + 3)
      clear hf2
      go_wp2
      go_roundw
      case rel => exact ⟨k + 1, by omega, by go_num, by rw [HSC.out]; have h := HST.out; rw [HLN.out] at h; exact h, Below.setCell (Below.setCell (Below.setCell (Below.setCell (HB2.out) (Nat.le_refl _) _) (Nat.le_refl _) _) (Nat.le_refl _) _) (Nat.le_refl _) _⟩
      case measure => simp [intOf]; omega
    · go_wp2
      go_ret
      rw [List.take_of_length_le (by omega)] at hf
      exact ⟨_, rfl, hf.own (fun _ => rfl) (Nat.le_refl _) (by unfold maxLen; omega), hb⟩
def FitsTag (l : List Tg) : Prop := ∀ p ∈ l, p.1.size ≤ 1048576
def SizedTag (l : List Tg) (left : Int) (w : World) (e : Ending) (w' : World) : Prop :=
  ∃ r : Int, e = .returned (.int .i64 r) ∧ r ≤ left ∧ (0 ≤ r → l.length ≤ 1048576 ∧ FitsTag l) ∧ Below w.heap.size w w'
set_option maxHeartbeats 4000000 in
set_option maxRecDepth 100000 in
theorem szTag1 (a0 : ByteArray) (a1 : Int) (a2 : Int) (a3 : Int) (left : Int) (w : World) (hs : a0.size ≤ maxLen) (h0 : 0 ≤ left) (h1 : left ≤ 1048576) :
    Calls Try.prog 94 #[.agg #[.string a0, .int .i64 a1, .int .i64 a2, .int .i64 a3], .int .i64 left] w fun e w' => e = .returned (.int .i64 (szT left a0.size)) ∧ Below w.heap.size w w' := by
  unfold maxLen at hs
  by_cases h : left < a0.size
  · have e : szT left a0.size = -1 := by unfold szT; rw [if_pos h]
    rw [e]; clear e
    go_enter Try.func94, Try.ntmps94
    go_wp2
    go_ret
    exact ⟨rfl, below1 _ 0⟩
  · have e : szT left a0.size = left - a0.size := by unfold szT; rw [if_neg h]
    rw [e]; clear e
    go_enter Try.func94, Try.ntmps94
    go_wp2
    go_ret
    exact ⟨rfl, below1 _ 0⟩
set_option maxHeartbeats 4000000 in
set_option maxRecDepth 100000 in
theorem szTagS_any (A : Option Addr) (c : Nat) (l : List Tg) (left : Int) (w : World) (hs : Sl w encT 4 A l) (hl : l.length ≤ maxLen) (hm : ∀ p ∈ l, p.1.size ≤ maxLen) (h0 : 0 ≤ left) (h1 : left ≤ 1048576) :
    Calls Try.prog 107 #[.slice A l.length c, .int .i64 left] w (SizedTag l left w) := by
  have HS := Lib.hid hs
  have HM := Lib.hid hm
  unfold maxLen at hl
  clear hs hm
  by_cases hlen : (l.length : Int) ≤ left
  · go_enter Try.func107, Try.ntmps107
    go_wp2
    go_loopw [1, 5] (fun v i wr => ∃ (k : Nat) (L : Int), k ≤ l.length ∧ i = .int .i64 k ∧ v = .int .i64 L ∧ 0 ≤ L ∧ L ≤ left ∧ Hid (FitsTag (l.take k)) ∧ Below w.heap.size w wr) (fun _ i _ => l.length - (intOf i).toNat)
    case atStart => exact ⟨0, left - l.length, Nat.zero_le _, rfl, rfl, by omega, by omega, (by intro p hp; simp at hp), Below.refl _ _⟩
    case round =>
      obtain ⟨k, L, hk, rfl, rfl, hL0, hL1, hft, hb⟩ := hrel
      by_cases hlt : k < l.length
      · obtain ⟨b, o, rfl, hc0, hc1, hc2, hc3⟩ := (HS.out.below hb).getT hlt
        have hms := HM.out l[k] (by simp)
        have hms2 := hms
        unfold maxLen at hms2
        have hnext : l[k].1.size ≤ 1048576 → FitsTag (l.take (k + 1)) := fun h p hp => by
          rw [List.take_succ_eq_append_getElem hlt, List.mem_append, List.mem_singleton] at hp
          rcases hp with hp | rfl
          · exact hft.out p hp
          · exact h
        have HN := Lib.hid hnext
        have HB := Lib.hid hb
        clear hnext hb
        generalize l[k] = p at *
        have hz := szTag1 p.1 p.2.1 p.2.2.1 p.2.2.2 L
        by_cases hsz : (p.1.size : Int) ≤ L
        · rw [show szT L p.1.size = L - p.1.size from by unfold szT; rw [if_neg (by omega)]] at hz
          have HZ := Lib.hid hz
          clear hz
          go_wp2_with fail
          refine (HZ.out _ hms hL0 (by omega)).mono ?_
          rintro e w2 ⟨rfl, hb2⟩
          have HB2 := Lib.hid (Below_then HB.out hb2 (Nat.le_refl _))
          clear hb2
          go_wp2
          go_roundw
          case rel => exact ⟨k + 1, _, by omega, by go_num, rfl, by omega, by omega, HN.out (by omega), HB2.out⟩
          case measure => simp [intOf]; omega
        · rw [show szT L p.1.size = -1 from by unfold szT; rw [if_pos (by omega)]] at hz
          have HZ := Lib.hid hz
          clear hz
          go_wp2_with fail
          refine (HZ.out _ hms hL0 (by omega)).mono ?_
          rintro e w2 ⟨rfl, hb2⟩
          have HB2 := Lib.hid (Below_then HB.out hb2 (Nat.le_refl _))
          clear hb2
          go_wp2
          go_ret
          exact ⟨-1, rfl, by omega, fun h => absurd h (by omega), HB2.out⟩
      · go_wp2
        go_ret
        refine ⟨L, rfl, hL1, fun _ => ⟨by omega, ?_⟩, hb⟩
        have h := hft.out; rwa [List.take_of_length_le (by omega)] at h
  · go_enter Try.func107, Try.ntmps107
    go_wp2
    go_ret
    exact ⟨-1, rfl, by omega, fun h => absurd h (by omega), Below.refl _ _⟩
set_option maxHeartbeats 4000000 in
set_option maxRecDepth 100000 in
theorem eqTag1 (a0 : ByteArray) (a1 : Int) (a2 : Int) (a3 : Int) (w : World) :
    Calls Try.prog 92 #[.agg #[.string a0, .int .i64 a1, .int .i64 a2, .int .i64 a3], .agg #[.string a0, .int .i64 a1, .int .i64 a2, .int .i64 a3]] w fun e w' => e = .returned (.bool true) ∧ Below w.heap.size w w' := by
  go_enter Try.func92, Try.ntmps92
  go_wp2
  go_ret
  exact ⟨rfl, ((Below.refl _ _).alloc (Nat.le_refl _) _).alloc (by simp) _⟩
set_option maxHeartbeats 4000000 in
set_option maxRecDepth 100000 in
theorem eqTagS_same (A B : Option Addr) (c d : Nat) (l : List Tg) (w : World) (ha : Sl w encT 4 A l) (hb : Sl w encT 4 B l) (hl : l.length ≤ 16777216) :
    Calls Try.prog 109 #[.slice A l.length c, .slice B l.length d] w fun e w' => e = .returned (.bool true) ∧ Below w.heap.size w w' := by
  have HA := Lib.hid ha
  have HB := Lib.hid hb
  clear ha hb
  go_enter Try.func109, Try.ntmps109
  go_wp2
  go_loopw [5] (fun i wr => ∃ (k : Nat), k ≤ l.length ∧ i = .int .i64 k ∧ Below w.heap.size w wr) (fun i _ => l.length - (intOf i).toNat)
  case atStart => exact ⟨0, Nat.zero_le _, rfl, Below.refl _ _⟩
  case round =>
    obtain ⟨k, hk, rfl, hbw⟩ := hrel
    have HW := Lib.hid hbw
    clear hbw
    by_cases hlt : k < l.length
    · obtain ⟨b1, o1, rfl, hc0, hc1, hc2, hc3⟩ := (HA.out.below HW.out).getT hlt
      obtain ⟨b2, o2, rfl, hd0, hd1, hd2, hd3⟩ := (HB.out.below HW.out).getT hlt
      generalize l[k] = p at *
      replace hc0 := far_cell hc0
      replace hc1 := far_cell hc1
      replace hc2 := far_cell hc2
      replace hc3 := far_cell hc3
      replace hd0 := far_cell hd0
      replace hd1 := far_cell hd1
      replace hd2 := far_cell hd2
      replace hd3 := far_cell hd3
      go_wp2
      refine wp_region_far (by kernel_rfl) (by kernel_rfl) ?_
      repeat (go_big_quiet_step ((go_at_call 92; exact far_call (eqTag1 _ _ _ _ _))))
      refine wpQuiet_nil ?_
      intro _ hwF
      obtain ⟨pF, hwF⟩ := hwF
      subst hwF
      go_wp2
      go_roundw
      case rel => exact ⟨k + 1, by omega, by go_num, Below_then HW.out (far_below _ _) (Nat.le_refl _)⟩
      case measure => simp [intOf]; omega
    · go_wp2
      go_ret
      exact ⟨rfl, HW.out⟩
def markTagL (k n : Nat) : List Tg := (List.range n).map fun j => (mk (markT (k + 4 * j + 0)), ((k + 4 * j + 1 : Nat) : Int), ((k + 4 * j + 2 : Nat) : Int), ((k + 4 * j + 3 : Nat) : Int))
theorem markTagL_len (k n : Nat) : (markTagL k n).length = n := by simp [markTagL]
theorem markTagL_succ (k n : Nat) : markTagL k (n + 1) = markTagL k n ++ [(mk (markT (k + 4 * n + 0)), ((k + 4 * n + 1 : Nat) : Int), ((k + 4 * n + 2 : Nat) : Int), ((k + 4 * n + 3 : Nat) : Int))] := by simp [markTagL, List.range_succ]
theorem markTagL_at {k n j : Nat} (h : j < n) : (markTagL k n)[j]'(by rw [markTagL_len]; exact h) = (mk (markT (k + 4 * j + 0)), ((k + 4 * j + 1 : Nat) : Int), ((k + 4 * j + 2 : Nat) : Int), ((k + 4 * j + 3 : Nat) : Int)) := by simp [markTagL]
set_option maxHeartbeats 4000000 in
set_option maxRecDepth 100000 in
theorem markTagS_any (base : Nat) (v : Value) (l : List Tg) (k : Nat) (w : World) (h : Own w base 77 4 encT v l) (hl : l.length ≤ 16777216) (hk : k ≤ 100000000) :
    Calls Try.prog 111 #[v, .int .i64 k] w (Marked 77 4 encT base v (markTagL k l.length) (k + 4 * l.length) w) := by
  by_cases h0 : 0 < l.length
  · obtain ⟨g, cap, rfl, hg, hlc, hcm, hf⟩ := h.row h0
    have HF := Lib.hid hf
    have hcm' := hcm
    unfold maxLen at hcm'
    clear hf h
    go_enter Try.func111, Try.ntmps111
    go_wp2
    go_loopw [1, 5] (fun sk si wr => ∃ (j K : Nat), j ≤ l.length ∧ si = .int .i64 (j : Int) ∧ sk = .int .i64 (K : Int) ∧ Hid (K = k + 4 * j) ∧ K ≤ 300000000 ∧ Filled wr g (cap * 4) 77 (flat encT (markTagL k j)) ∧ Grew (.slice (some ⟨g, 0, none⟩) l.length cap) w wr) (fun _ si _ => l.length - (intOf si).toNat)
    case atStart => exact ⟨0, k, Nat.zero_le _, rfl, rfl, rfl, by omega, HF.out, Grew.refl _ _⟩
    case round =>
      obtain ⟨j, K, hj, rfl, rfl, hK, hKb, hf, hg2⟩ := hrel
      by_cases hlt : j < l.length
      · have hlen : (flat encT (markTagL k j)).length = j * 4 := by rw [flat_length (size := 4) (fun _ => rfl), markTagL_len]
        have hsucc : flat encT (markTagL k (j + 1)) = flat encT (markTagL k j) ++ [.string (mk (markT (K + 0))), Value.int .i64 ((K + 1 : Nat) : Int), Value.int .i64 ((K + 2 : Nat) : Int), Value.int .i64 ((K + 3 : Nat) : Int)] := by
          rw [markTagL_succ, flat_snoc]; have := hK.out; subst this; rfl
        have HSC := Lib.hid hsucc
        have HLN := Lib.hid hlen
        have HK := hK
        have HF0 := Lib.hid hf
        have HG0 := Lib.hid hg2
        clear hsucc hlen hK hf hg2
        generalize flat encT (markTagL k j) = D at *
        go_wp2_with fail
        refine (markText_at _ (K + 0) (by omega) _ (by omega)).mono ?_
        rintro e w1 ⟨rfl, hb1⟩
        have HF1 := Lib.hid (HF0.out.below hb1)
        have HG1 := Lib.hid (HG0.out.trans (Grew.below hb1))
        clear hb1 
        obtain ⟨u0, hu0⟩ := HF1.out.cell (j := j * 4) (by omega)
        have hr0 := HF1.out.free (j * 4)
        obtain ⟨u1, hu1⟩ := HF1.out.cell (j := j * 4 + 1) (by omega)
        have hr1 := HF1.out.free (j * 4 + 1)
        obtain ⟨u2, hu2⟩ := HF1.out.cell (j := j * 4 + 2) (by omega)
        have hr2 := HF1.out.free (j * 4 + 2)
        obtain ⟨u3, hu3⟩ := HF1.out.cell (j := j * 4 + 3) (by omega)
        have hr3 := HF1.out.free (j * 4 + 3)
        have HST := Lib.hid (Filled.stores_of [.string (mk (markT (K + 0))), Value.int .i64 ((K + 1 : Nat) : Int), Value.int .i64 ((K + 2 : Nat) : Int), Value.int .i64 ((K + 3 : Nat) : Int)] (j := j * 4) HF1.out (by simp [HLN.out]) (by simp; omega))
        go_wp2
        go_roundw
        case rel => exact ⟨j + 1, K + 4, by omega, by go_num, by go_num, by show _ = _; rw [HK.out]; omega, by have := HK.out; omega, by rw [HSC.out]; have h := HST.out; simpa [setAll, Nat.add_assoc, Int.add_assoc] using h, Grew.set (Grew.set (Grew.set (Grew.set (HG1.out) rfl _) rfl _) rfl _) rfl _⟩
        case measure => simp [intOf]; omega
      · have hjl : j = l.length := by omega
        subst hjl
        have HG2 := Lib.hid hg2
        have HF2 := Lib.hid hf
        clear hg2 hf
        go_wp2
        go_ret
        have ho := HF2.out.ownc (base := base) (fun _ => rfl) hg hcm (by rw [markTagL_len]; exact hlc)
        rw [markTagL_len] at ho
        exact ⟨ret_int (by rw [hK.out]), ho, HG2.out⟩
  · have hz : l.length = 0 := by omega
    obtain ⟨A, c, hv, _, _, _⟩ := h.sl
    subst hv
    rw [hz] at h ⊢
    have H := Lib.hid h
    clear h
    go_enter Try.func111, Try.ntmps111
    go_wp2
    go_loopw [1, 5] (fun sk si wr => si = .int .i64 0 ∧ sk = .int .i64 (k : Int) ∧ w = wr) (fun _ _ _ => 0)
    case atStart => exact ⟨rfl, rfl, rfl⟩
    case round =>
      obtain ⟨rfl, rfl, rfl⟩ := hrel
      go_wp2
      go_ret
      exact ⟨rfl, H.out.empty hz (by rw [markTagL_len]), Grew.refl _ _⟩
set_option maxHeartbeats 4000000 in
set_option maxRecDepth 100000 in
theorem heldTagS_any (A : Option Addr) (c : Nat) (k n : Nat) (w : World) (hs : Sl w encT 4 A (markTagL k n)) (hn : n ≤ 16777216) (hk : k ≤ 100000000) :
    Calls Try.prog 112 #[.slice A n c, .int .i64 k] w fun e w' => e = .returned (.int .i64 ((k + 4 * n : Nat) : Int)) ∧ Below w.heap.size w w' := by
  have HS := Lib.hid hs
  clear hs
  go_enter Try.func112, Try.ntmps112
  go_wp2
  go_loopw [1, 5] (fun sk si wr => ∃ (j K : Nat), j ≤ n ∧ si = .int .i64 (j : Int) ∧ sk = .int .i64 (K : Int) ∧ Hid (K = k + 4 * j) ∧ K ≤ 300000000 ∧ Below w.heap.size w wr) (fun _ si _ => n - (intOf si).toNat)
  case atStart => exact ⟨0, k, Nat.zero_le _, rfl, rfl, rfl, by omega, Below.refl _ _⟩
  case round =>
    obtain ⟨j, K, hj, rfl, rfl, hK, hKb, hb⟩ := hrel
    have HB0 := Lib.hid hb
    clear hb
    by_cases hlt : j < n
    · have HK := hK
      have hat := markTagL_at (k := k) hlt
      rw [← hK.out] at hat
      clear hK
      obtain ⟨b, o, rfl, hc0, hc1, hc2, hc3⟩ := (HS.out.below HB0.out).getT (k := j) (by rw [markTagL_len]; exact hlt)
      rw [hat] at hc0 hc1 hc2 hc3
      clear hat
      go_wp2
      have hf0 := far_cell hc0
      have hf1 := far_cell hc1
      have hf2 := far_cell hc2
      have hf3 := far_cell hc3
      have HC := Lib.hid (And.intro hc0 (And.intro hc1 (And.intro hc2 hc3)))
      clear hc0 hc1 hc2 hc3
      refine wp_region_far (by kernel_rfl) (by kernel_rfl) ?_
      repeat (go_big_quiet_step ((go_at_call 138; exact far_call (markText_at _ (K + 0) (by omega) _ (by omega)))))
      refine wpQuiet_nil ?_
      intro _ hwF
      obtain ⟨pF, hwF⟩ := hwF
      subst hwF
      have HB1 := Lib.hid (Below_then HB0.out (far_below _ pF) (Nat.le_refl _))
      obtain ⟨hc0, hc1, hc2, hc3⟩ := HC.out
      replace hc0 := hf0 pF
      replace hc1 := hf1 pF
      replace hc2 := hf2 pF
      replace hc3 := hf3 pF
      clear hf0 hf1 hf2 hf3 HC
      generalize far _ pF = wF0 at *
      go_wp2
      go_roundw
      case rel => exact ⟨j + 1, K + 4, by omega, by go_num, by go_num, by show _ = _; rw [HK.out]; omega, by have := HK.out; omega, HB1.out⟩
      case measure => simp [intOf]; omega
    · have hjl : j = n := by omega
      subst hjl
      go_wp2
      go_ret
      exact ⟨ret_int (by rw [hK.out]), HB0.out⟩
/-- What is told of a slice of such structs that came in. -/
def TagsIn (w : World) (A : Option Addr) (n c : Nat) : Prop := ∃ l : List Tg, l.length = n ∧ n ≤ c ∧ c ≤ maxLen ∧ Sl w encT 4 A l ∧ ∀ p ∈ l, p.1.size ≤ maxLen
end Go.Proofs.Ytbefbenihahdnaa
