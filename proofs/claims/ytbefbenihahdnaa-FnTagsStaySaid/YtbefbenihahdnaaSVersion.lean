/- Versions: copies, sizes, comparisons and marks of their slices, as laws make them. Written by structgen.py. -/
import Derived.Test.YtbefbenihahdnaaSt
set_option linter.unusedVariables false
namespace Go.Proofs.Ytbefbenihahdnaa
open Go.RowKit

theorem encV_info : (Try.prog.info? 82).map (fun i => (i.zero, i.size, i.bytes)) = some (some (.agg #[.int .i64 0, .int .i64 0, .string ⟨#[]⟩]), 3, 32) := by kernel_rfl
set_option maxHeartbeats 4000000 in
set_option maxRecDepth 100000 in
theorem toVersion1 (a0 : Int) (a1 : Int) (a2 : ByteArray) (w : World) :
    Calls Try.prog 156 #[.agg #[.int .i64 a0, .int .i64 a1, .string a2]] w fun e w' => e = .returned (.agg #[.int .i64 a0, .int .i64 a1, .string a2]) ∧ Below w.heap.size w w' := by
  go_enter Try.func156, Try.ntmps156
  go_wp2
  exact bodyPost_ret (v := .agg #[.int .i64 a0, .int .i64 a1, .string a2]) (by simp [results, Try.results156, go_sem]) rfl ⟨rfl, below3 _ _ _⟩
set_option maxHeartbeats 4000000 in
set_option maxRecDepth 100000 in
theorem toVersionS_any (A : Option Addr) (c : Nat) (l : List Vr) (w : World) (hs : Sl w encV 3 A l) (hl : l.length ≤ 16777216) :
    Calls Try.prog 91 #[.slice A l.length c] w (OwnRes 82 3 encV l w) := by
  obtain ⟨i0, hi0, hz0, hz1, hz2⟩ := info_parts encV_info
  have hmk := make_row (P := Try.prog) 73 82 i0 _ Try.underlying73 hi0 hz0 l.length hl (by omega)
  rw [hz1] at hmk
  have hfl := fun W : World => Filled.made W (Value.agg #[.int .i64 0, .int .i64 0, .string ⟨#[]⟩]).cells (l.length * 3) 82
  have HFL := Lib.hid hfl
  have HS := Lib.hid hs
  clear hs hfl hi0 hz0 hz1 hz2
  generalize madeCells (Value.agg #[.int .i64 0, .int .i64 0, .string ⟨#[]⟩]).cells (l.length * 3) = M at *
  go_enter Try.func91, Try.ntmps91
  go_wp2
  clear hmk
  go_loopw [4] (fun i wr => ∃ (k : Nat), k ≤ l.length ∧ i = .int .i64 k ∧ Filled wr w.heap.size (l.length * 3) 82 (flat encV (l.take k)) ∧ Below w.heap.size w wr) (fun i _ => l.length - (intOf i).toNat)
  case atStart => exact ⟨0, Nat.zero_le _, rfl, HFL.out w, (Below.refl _ _).alloc (Nat.le_refl _) _⟩
  case round =>
    obtain ⟨k, hk, rfl, hf, hb⟩ := hrel
    by_cases hlt : k < l.length
    · obtain ⟨b, o, rfl, hc0, hc1, hc2⟩ := (HS.out.below hb).getV hlt
      have hlen : (flat encV (l.take k)).length = k * 3 := by rw [flat_length (size := 3) (fun _ => rfl), List.length_take]; omega
      have HF := Lib.hid hf
      have HB := Lib.hid hb
      clear hf hb
      have hsucc : flat encV (l.take (k + 1)) = flat encV (l.take k) ++ encV l[k] := by rw [List.take_succ_eq_append_getElem hlt, flat_snoc]
      have HSC := Lib.hid hsucc
      have HLN := Lib.hid hlen
      clear hsucc hlen
      generalize l[k] = p at *
      go_wp2_with fail
      refine (toVersion1 _ _ _ _).mono ?_
      rintro e w2 ⟨rfl, hb2⟩
      have hf2 := HF.out.below hb2
      have HB2 := Lib.hid (HB.out.trans (hb2.mono HB.out.size))
      clear hb2
      have HST := Lib.hid (hf2.stores (encV p) (by rw [HLN.out]; simp [encV]; omega))
      obtain ⟨u0, hu0⟩ := hf2.cell (j := k * 3) (by omega)
      have hr0 := hf2.free (k * 3)
      obtain ⟨u1, hu1⟩ := hf2.cell (j := k * 3 + 1) (by omega)
      have hr1 := hf2.free (k * 3 + 1)
      obtain ⟨u2, hu2⟩ := hf2.cell (j := k * 3 + 2) (by omega)
      have hr2 := hf2.free (k * 3 + 2)
      clear hf2
      go_wp2
      go_roundw
      case rel => exact ⟨k + 1, by omega, by go_num, by rw [HSC.out]; have h := HST.out; rw [HLN.out] at h; exact h, Below.setCell (Below.setCell (Below.setCell (HB2.out) (Nat.le_refl _) _) (Nat.le_refl _) _) (Nat.le_refl _) _⟩
      case measure => simp [intOf]; omega
    · go_wp2
      go_ret
      rw [List.take_of_length_le (by omega)] at hf
      exact ⟨_, rfl, hf.own (fun _ => rfl) (Nat.le_refl _) (by unfold maxLen; omega), hb⟩
def FitsVersion (l : List Vr) : Prop := ∀ p ∈ l, p.2.2.size ≤ 1048576
def SizedVersion (l : List Vr) (left : Int) (w : World) (e : Ending) (w' : World) : Prop :=
  ∃ r : Int, e = .returned (.int .i64 r) ∧ r ≤ left ∧ (0 ≤ r → l.length ≤ 1048576 ∧ FitsVersion l) ∧ Below w.heap.size w w'
set_option maxHeartbeats 4000000 in
set_option maxRecDepth 100000 in
theorem szVersion1 (a0 : Int) (a1 : Int) (a2 : ByteArray) (left : Int) (w : World) (hs : a2.size ≤ maxLen) (h0 : 0 ≤ left) (h1 : left ≤ 1048576) :
    Calls Try.prog 155 #[.agg #[.int .i64 a0, .int .i64 a1, .string a2], .int .i64 left] w fun e w' => e = .returned (.int .i64 (szT left a2.size)) ∧ Below w.heap.size w w' := by
  unfold maxLen at hs
  by_cases h : left < a2.size
  · have e : szT left a2.size = -1 := by unfold szT; rw [if_pos h]
    rw [e]; clear e
    go_enter Try.func155, Try.ntmps155
    go_wp2
    go_ret
    exact ⟨rfl, below1 _ 0⟩
  · have e : szT left a2.size = left - a2.size := by unfold szT; rw [if_neg h]
    rw [e]; clear e
    go_enter Try.func155, Try.ntmps155
    go_wp2
    go_ret
    exact ⟨rfl, below1 _ 0⟩
set_option maxHeartbeats 4000000 in
set_option maxRecDepth 100000 in
theorem szVersionS_any (A : Option Addr) (c : Nat) (l : List Vr) (left : Int) (w : World) (hs : Sl w encV 3 A l) (hl : l.length ≤ maxLen) (hm : ∀ p ∈ l, p.2.2.size ≤ maxLen) (h0 : 0 ≤ left) (h1 : left ≤ 1048576) :
    Calls Try.prog 90 #[.slice A l.length c, .int .i64 left] w (SizedVersion l left w) := by
  have HS := Lib.hid hs
  have HM := Lib.hid hm
  unfold maxLen at hl
  clear hs hm
  by_cases hlen : (l.length : Int) ≤ left
  · go_enter Try.func90, Try.ntmps90
    go_wp2
    go_loopw [1, 5] (fun v i wr => ∃ (k : Nat) (L : Int), k ≤ l.length ∧ i = .int .i64 k ∧ v = .int .i64 L ∧ 0 ≤ L ∧ L ≤ left ∧ Hid (FitsVersion (l.take k)) ∧ Below w.heap.size w wr) (fun _ i _ => l.length - (intOf i).toNat)
    case atStart => exact ⟨0, left - l.length, Nat.zero_le _, rfl, rfl, by omega, by omega, (by intro p hp; simp at hp), Below.refl _ _⟩
    case round =>
      obtain ⟨k, L, hk, rfl, rfl, hL0, hL1, hft, hb⟩ := hrel
      by_cases hlt : k < l.length
      · obtain ⟨b, o, rfl, hc0, hc1, hc2⟩ := (HS.out.below hb).getV hlt
        have hms := HM.out l[k] (by simp)
        have hms2 := hms
        unfold maxLen at hms2
        have hnext : l[k].2.2.size ≤ 1048576 → FitsVersion (l.take (k + 1)) := fun h p hp => by
          rw [List.take_succ_eq_append_getElem hlt, List.mem_append, List.mem_singleton] at hp
          rcases hp with hp | rfl
          · exact hft.out p hp
          · exact h
        have HN := Lib.hid hnext
        have HB := Lib.hid hb
        clear hnext hb
        generalize l[k] = p at *
        have hz := szVersion1 p.1 p.2.1 p.2.2 L
        by_cases hsz : (p.2.2.size : Int) ≤ L
        · rw [show szT L p.2.2.size = L - p.2.2.size from by unfold szT; rw [if_neg (by omega)]] at hz
          have HZ := Lib.hid hz
          clear hz
          go_wp2_with fail
          refine (HZ.out _ hms hL0 (by omega)).mono ?_
          rintro e w2 ⟨rfl, hb2⟩
          have HB2 := Lib.hid (Below_then HB.out hb2 (Nat.le_refl _))
          clear hb2
          go_wp2
          go_roundw
          case rel => exact ⟨k + 1, _, by omega, by go_num, rfl, by omega, by omega, HN.out (by omega), HB2.out⟩
          case measure => simp [intOf]; omega
        · rw [show szT L p.2.2.size = -1 from by unfold szT; rw [if_pos (by omega)]] at hz
          have HZ := Lib.hid hz
          clear hz
          go_wp2_with fail
          refine (HZ.out _ hms hL0 (by omega)).mono ?_
          rintro e w2 ⟨rfl, hb2⟩
          have HB2 := Lib.hid (Below_then HB.out hb2 (Nat.le_refl _))
          clear hb2
          go_wp2
          go_ret
          exact ⟨-1, rfl, by omega, fun h => absurd h (by omega), HB2.out⟩
      · go_wp2
        go_ret
        refine ⟨L, rfl, hL1, fun _ => ⟨by omega, ?_⟩, hb⟩
        have h := hft.out; rwa [List.take_of_length_le (by omega)] at h
  · go_enter Try.func90, Try.ntmps90
    go_wp2
    go_ret
    exact ⟨-1, rfl, by omega, fun h => absurd h (by omega), Below.refl _ _⟩
set_option maxHeartbeats 4000000 in
set_option maxRecDepth 100000 in
theorem eqVersion1 (a0 : Int) (a1 : Int) (a2 : ByteArray) (w : World) :
    Calls Try.prog 157 #[.agg #[.int .i64 a0, .int .i64 a1, .string a2], .agg #[.int .i64 a0, .int .i64 a1, .string a2]] w fun e w' => e = .returned (.bool true) ∧ Below w.heap.size w w' := by
  go_enter Try.func157, Try.ntmps157
  go_wp2
  go_ret
  exact ⟨rfl, ((Below.refl _ _).alloc (Nat.le_refl _) _).alloc (by simp) _⟩
set_option maxHeartbeats 4000000 in
set_option maxRecDepth 100000 in
theorem eqVersionS_same (A B : Option Addr) (c d : Nat) (l : List Vr) (w : World) (ha : Sl w encV 3 A l) (hb : Sl w encV 3 B l) (hl : l.length ≤ 16777216) :
    Calls Try.prog 93 #[.slice A l.length c, .slice B l.length d] w fun e w' => e = .returned (.bool true) ∧ Below w.heap.size w w' := by
  have HA := Lib.hid ha
  have HB := Lib.hid hb
  clear ha hb
  go_enter Try.func93, Try.ntmps93
  go_wp2
  go_loopw [5] (fun i wr => ∃ (k : Nat), k ≤ l.length ∧ i = .int .i64 k ∧ Below w.heap.size w wr) (fun i _ => l.length - (intOf i).toNat)
  case atStart => exact ⟨0, Nat.zero_le _, rfl, Below.refl _ _⟩
  case round =>
    obtain ⟨k, hk, rfl, hbw⟩ := hrel
    have HW := Lib.hid hbw
    clear hbw
    by_cases hlt : k < l.length
    · obtain ⟨b1, o1, rfl, hc0, hc1, hc2⟩ := (HA.out.below HW.out).getV hlt
      obtain ⟨b2, o2, rfl, hd0, hd1, hd2⟩ := (HB.out.below HW.out).getV hlt
      generalize l[k] = p at *
      replace hc0 := far_cell hc0
      replace hc1 := far_cell hc1
      replace hc2 := far_cell hc2
      replace hd0 := far_cell hd0
      replace hd1 := far_cell hd1
      replace hd2 := far_cell hd2
      go_wp2
      refine wp_region_far (by kernel_rfl) (by kernel_rfl) ?_
      repeat (go_big_quiet_step ((go_at_call 157; exact far_call (eqVersion1 _ _ _ _))))
      refine wpQuiet_nil ?_
      intro _ hwF
      obtain ⟨pF, hwF⟩ := hwF
      subst hwF
      go_wp2
      go_roundw
      case rel => exact ⟨k + 1, by omega, by go_num, Below_then HW.out (far_below _ _) (Nat.le_refl _)⟩
      case measure => simp [intOf]; omega
    · go_wp2
      go_ret
      exact ⟨rfl, HW.out⟩
def markVersionL (k n : Nat) : List Vr := (List.range n).map fun j => (((k + 3 * j + 0 : Nat) : Int), ((k + 3 * j + 1 : Nat) : Int), mk (markT (k + 3 * j + 2)))
theorem markVersionL_len (k n : Nat) : (markVersionL k n).length = n := by simp [markVersionL]
theorem markVersionL_succ (k n : Nat) : markVersionL k (n + 1) = markVersionL k n ++ [(((k + 3 * n + 0 : Nat) : Int), ((k + 3 * n + 1 : Nat) : Int), mk (markT (k + 3 * n + 2)))] := by simp [markVersionL, List.range_succ]
theorem markVersionL_at {k n j : Nat} (h : j < n) : (markVersionL k n)[j]'(by rw [markVersionL_len]; exact h) = (((k + 3 * j + 0 : Nat) : Int), ((k + 3 * j + 1 : Nat) : Int), mk (markT (k + 3 * j + 2))) := by simp [markVersionL]
set_option maxHeartbeats 4000000 in
set_option maxRecDepth 100000 in
theorem markVersionS_any (base : Nat) (v : Value) (l : List Vr) (k : Nat) (w : World) (h : Own w base 82 3 encV v l) (hl : l.length ≤ 16777216) (hk : k ≤ 100000000) :
    Calls Try.prog 110 #[v, .int .i64 k] w (Marked 82 3 encV base v (markVersionL k l.length) (k + 3 * l.length) w) := by
  by_cases h0 : 0 < l.length
  · obtain ⟨g, cap, rfl, hg, hlc, hcm, hf⟩ := h.row h0
    have HF := Lib.hid hf
    have hcm' := hcm
    unfold maxLen at hcm'
    clear hf h
    go_enter Try.func110, Try.ntmps110
    go_wp2
    go_loopw [1, 5] (fun sk si wr => ∃ (j K : Nat), j ≤ l.length ∧ si = .int .i64 (j : Int) ∧ sk = .int .i64 (K : Int) ∧ Hid (K = k + 3 * j) ∧ K ≤ 300000000 ∧ Filled wr g (cap * 3) 82 (flat encV (markVersionL k j)) ∧ Grew (.slice (some ⟨g, 0, none⟩) l.length cap) w wr) (fun _ si _ => l.length - (intOf si).toNat)
    case atStart => exact ⟨0, k, Nat.zero_le _, rfl, rfl, rfl, by omega, HF.out, Grew.refl _ _⟩
    case round =>
      obtain ⟨j, K, hj, rfl, rfl, hK, hKb, hf, hg2⟩ := hrel
      by_cases hlt : j < l.length
      · have hlen : (flat encV (markVersionL k j)).length = j * 3 := by rw [flat_length (size := 3) (fun _ => rfl), markVersionL_len]
        have hsucc : flat encV (markVersionL k (j + 1)) = flat encV (markVersionL k j) ++ [Value.int .i64 ((K + 0 : Nat) : Int), Value.int .i64 ((K + 1 : Nat) : Int), .string (mk (markT (K + 2)))] := by
          rw [markVersionL_succ, flat_snoc]; have := hK.out; subst this; rfl
        have HSC := Lib.hid hsucc
        have HLN := Lib.hid hlen
        have HK := hK
        have HF0 := Lib.hid hf
        have HG0 := Lib.hid hg2
        clear hsucc hlen hK hf hg2
        generalize flat encV (markVersionL k j) = D at *
        obtain ⟨u0, hu0⟩ := HF0.out.cell (j := j * 3) (by omega)
        have hr0 := HF0.out.free (j * 3)
        obtain ⟨u1, hu1⟩ := HF0.out.cell (j := j * 3 + 1) (by omega)
        have hr1 := HF0.out.free (j * 3 + 1)
        go_wp2_with fail
        refine (markText_at _ (K + 2) (by omega) _ (by omega)).mono ?_
        rintro e w3 ⟨rfl, hb3⟩
        have hst2 := Filled.stores_of [Value.int .i64 ((K + 0 : Nat) : Int), Value.int .i64 ((K + 1 : Nat) : Int)] (j := j * 3) HF0.out (by simp [HLN.out]) (by simp; omega)
        have HF3 := Lib.hid (hst2.below hb3)
        have HG3 := Lib.hid ((Grew.set (Grew.set (HG0.out) rfl _) rfl _).trans (Grew.below hb3))
        clear hb3 hu0 hr0 hu1 hr1 hst2
        obtain ⟨u2, hu2⟩ := HF3.out.cell (j := j * 3 + 2) (by omega)
        have hr2 := HF3.out.free (j * 3 + 2)
        have HST := Lib.hid (Filled.stores_of [.string (mk (markT (K + 2)))] (j := j * 3 + 2) HF3.out (by simp [HLN.out]) (by simp; omega))
        go_wp2
        go_roundw
        case rel => exact ⟨j + 1, K + 3, by omega, by go_num, by go_num, by show _ = _; rw [HK.out]; omega, by have := HK.out; omega, by rw [HSC.out]; have h := HST.out; simpa [setAll, Nat.add_assoc, Int.add_assoc] using h, Grew.set (HG3.out) rfl _⟩
        case measure => simp [intOf]; omega
      · have hjl : j = l.length := by omega
        subst hjl
        have HG2 := Lib.hid hg2
        have HF2 := Lib.hid hf
        clear hg2 hf
        go_wp2
        go_ret
        have ho := HF2.out.ownc (base := base) (fun _ => rfl) hg hcm (by rw [markVersionL_len]; exact hlc)
        rw [markVersionL_len] at ho
        exact ⟨ret_int (by rw [hK.out]), ho, HG2.out⟩
  · have hz : l.length = 0 := by omega
    obtain ⟨A, c, hv, _, _, _⟩ := h.sl
    subst hv
    rw [hz] at h ⊢
    have H := Lib.hid h
    clear h
    go_enter Try.func110, Try.ntmps110
    go_wp2
    go_loopw [1, 5] (fun sk si wr => si = .int .i64 0 ∧ sk = .int .i64 (k : Int) ∧ w = wr) (fun _ _ _ => 0)
    case atStart => exact ⟨rfl, rfl, rfl⟩
    case round =>
      obtain ⟨rfl, rfl, rfl⟩ := hrel
      go_wp2
      go_ret
      exact ⟨rfl, H.out.empty hz (by rw [markVersionL_len]), Grew.refl _ _⟩
/-- What is told of a slice of such structs that came in. -/
def VersionsIn (w : World) (A : Option Addr) (n c : Nat) : Prop := ∃ l : List Vr, l.length = n ∧ n ≤ c ∧ c ≤ maxLen ∧ Sl w encV 3 A l ∧ ∀ p ∈ l, p.2.2.size ≤ maxLen
end Go.Proofs.Ytbefbenihahdnaa
