/- Written by merge.py: SVersion, Open3, Facts, So, Hx, Fo, Fp, Fw, Vp, Fa, Nwp, Wp, Ws, Nm. -/
import Derived.Deep.Slices
import Derived.DataReads
import Derived.Test.YtaghiefokmapmaaGreatDoorRows
import Derived.JoinedOf
import Derived.KernelRfl
import Derived.Laws.Strings
import Derived.Lib.Split
import Derived.Test.YtaghiefokmapmaaGreatDoorMgExactOverQuotas1
/- Versions: copies, sizes, comparisons and marks of their slices, as laws make them. Written by structgen.py. -/
set_option linter.unusedVariables false
namespace Go.Proofs.YtaghiefokmapmaaGreatDoor
open Go.RowKit

theorem encV_info : (Tryz.prog.info? 102).map (fun i => (i.zero, i.size, i.bytes)) = some (some (.agg #[.int .i64 0, .int .i64 0, .string ⟨#[]⟩]), 3, 32) := by kernel_rfl
set_option maxHeartbeats 4000000 in
set_option maxRecDepth 100000 in
theorem toVersion1 (a0 : Int) (a1 : Int) (a2 : ByteArray) (w : World) :
    Calls Tryz.prog 150 #[.agg #[.int .i64 a0, .int .i64 a1, .string a2]] w fun e w' => e = .returned (.agg #[.int .i64 a0, .int .i64 a1, .string a2]) ∧ Below w.heap.size w w' := by
  go_enter Tryz.func150, Tryz.ntmps150
  go_wp2
  exact bodyPost_ret (v := .agg #[.int .i64 a0, .int .i64 a1, .string a2]) (by simp [results, Tryz.results150, go_sem]) rfl ⟨rfl, below3 _ _ _⟩
set_option maxHeartbeats 4000000 in
set_option maxRecDepth 100000 in
theorem toVersionS_any (A : Option Addr) (c : Nat) (l : List Vr) (w : World) (hs : Sl w encV 3 A l) (hl : l.length ≤ 16777216) :
    Calls Tryz.prog 86 #[.slice A l.length c] w (OwnRes 102 3 encV l w) := by
  obtain ⟨i0, hi0, hz0, hz1, hz2⟩ := info_parts encV_info
  have hmk := make_row (P := Tryz.prog) 43 102 i0 _ Tryz.underlying43 hi0 hz0 l.length hl (by omega)
  rw [hz1] at hmk
  have hfl := fun W : World => Filled.made W (Value.agg #[.int .i64 0, .int .i64 0, .string ⟨#[]⟩]).cells (l.length * 3) 102
  have HFL := Lib.hid hfl
  have HS := Lib.hid hs
  clear hs hfl hi0 hz0 hz1 hz2
  generalize madeCells (Value.agg #[.int .i64 0, .int .i64 0, .string ⟨#[]⟩]).cells (l.length * 3) = M at *
  go_enter Tryz.func86, Tryz.ntmps86
  go_wp2
  clear hmk
  go_loopw [4] (fun i wr => ∃ (k : Nat), k ≤ l.length ∧ i = .int .i64 k ∧ Filled wr w.heap.size (l.length * 3) 102 (flat encV (l.take k)) ∧ Below w.heap.size w wr) (fun i _ => l.length - (intOf i).toNat)
  case atStart => exact ⟨0, Nat.zero_le _, rfl, HFL.out w, (Below.refl _ _).alloc (Nat.le_refl _) _⟩
  case round =>
    obtain ⟨k, hk, rfl, hf, hb⟩ := hrel
    by_cases hlt : k < l.length
    · obtain ⟨b, o, rfl, hc0, hc1, hc2⟩ := (HS.out.below hb).getV hlt
      have hlen : (flat encV (l.take k)).length = k * 3 := by rw [flat_length (size := 3) (fun _ => rfl), List.length_take]; omega
      have HF := Lib.hid hf
      have HB := Lib.hid hb
      clear hf hb
      have hsucc : flat encV (l.take (k + 1)) = flat encV (l.take k) ++ encV l[k] := by rw [List.take_succ_eq_append_getElem hlt, flat_snoc]
      have HSC := Lib.hid hsucc
      have HLN := Lib.hid hlen
      clear hsucc hlen
      generalize l[k] = p at *
      go_wp2_with fail
      refine (toVersion1 _ _ _ _).mono ?_
      rintro e w2 ⟨rfl, hb2⟩
      have hf2 := HF.out.below hb2
      have HB2 := Lib.hid (HB.out.trans (hb2.mono HB.out.size))
      clear hb2
      have HST := Lib.hid (hf2.stores (encV p) (by rw [HLN.out]; simp [encV]; omega))
      obtain ⟨u0, hu0⟩ := hf2.cell (j := k * 3) (by omega)
      have hr0 := hf2.free (k * 3)
      obtain ⟨u1, hu1⟩ := hf2.cell (j := k * 3 + 1) (by omega)
      have hr1 := hf2.free (k * 3 + 1)
      obtain ⟨u2, hu2⟩ := hf2.cell (j := k * 3 + 2) (by omega)
      have hr2 := hf2.free (k * 3 + 2)
      clear hf2
      go_wp2
      go_roundw
      case rel => exact ⟨k + 1, by omega, by go_num, by rw [HSC.out]; have h := HST.out; rw [HLN.out] at h; exact h, Below.setCell (Below.setCell (Below.setCell (HB2.out) (Nat.le_refl _) _) (Nat.le_refl _) _) (Nat.le_refl _) _⟩
      case measure => simp [intOf]; omega
    · go_wp2
      go_ret
      rw [List.take_of_length_le (by omega)] at hf
      exact ⟨_, rfl, hf.own (fun _ => rfl) (Nat.le_refl _) (by unfold maxLen; omega), hb⟩
def FitsVersion (l : List Vr) : Prop := ∀ p ∈ l, p.2.2.size ≤ 1048576
def SizedVersion (l : List Vr) (left : Int) (w : World) (e : Ending) (w' : World) : Prop :=
  ∃ r : Int, e = .returned (.int .i64 r) ∧ r ≤ left ∧ (0 ≤ r → l.length ≤ 1048576 ∧ FitsVersion l) ∧ Below w.heap.size w w'
set_option maxHeartbeats 4000000 in
set_option maxRecDepth 100000 in
theorem szVersion1 (a0 : Int) (a1 : Int) (a2 : ByteArray) (left : Int) (w : World) (hs : a2.size ≤ maxLen) (h0 : 0 ≤ left) (h1 : left ≤ 1048576) :
    Calls Tryz.prog 135 #[.agg #[.int .i64 a0, .int .i64 a1, .string a2], .int .i64 left] w fun e w' => e = .returned (.int .i64 (szT left a2.size)) ∧ Below w.heap.size w w' := by
  unfold maxLen at hs
  by_cases h : left < a2.size
  · have e : szT left a2.size = -1 := by unfold szT; rw [if_pos h]
    rw [e]; clear e
    go_enter Tryz.func135, Tryz.ntmps135
    go_wp2
    go_ret
    exact ⟨rfl, below1 _ 0⟩
  · have e : szT left a2.size = left - a2.size := by unfold szT; rw [if_neg h]
    rw [e]; clear e
    go_enter Tryz.func135, Tryz.ntmps135
    go_wp2
    go_ret
    exact ⟨rfl, below1 _ 0⟩
set_option maxHeartbeats 4000000 in
set_option maxRecDepth 100000 in
theorem szVersionS_any (A : Option Addr) (c : Nat) (l : List Vr) (left : Int) (w : World) (hs : Sl w encV 3 A l) (hl : l.length ≤ maxLen) (hm : ∀ p ∈ l, p.2.2.size ≤ maxLen) (h0 : 0 ≤ left) (h1 : left ≤ 1048576) :
    Calls Tryz.prog 75 #[.slice A l.length c, .int .i64 left] w (SizedVersion l left w) := by
  have HS := Lib.hid hs
  have HM := Lib.hid hm
  unfold maxLen at hl
  clear hs hm
  by_cases hlen : (l.length : Int) ≤ left
  · go_enter Tryz.func75, Tryz.ntmps75
    go_wp2
    go_loopw [1, 5] (fun v i wr => ∃ (k : Nat) (L : Int), k ≤ l.length ∧ i = .int .i64 k ∧ v = .int .i64 L ∧ 0 ≤ L ∧ L ≤ left ∧ Hid (FitsVersion (l.take k)) ∧ Below w.heap.size w wr) (fun _ i _ => l.length - (intOf i).toNat)
    case atStart => exact ⟨0, left - l.length, Nat.zero_le _, rfl, rfl, by omega, by omega, (by intro p hp; simp at hp), Below.refl _ _⟩
    case round =>
      obtain ⟨k, L, hk, rfl, rfl, hL0, hL1, hft, hb⟩ := hrel
      by_cases hlt : k < l.length
      · obtain ⟨b, o, rfl, hc0, hc1, hc2⟩ := (HS.out.below hb).getV hlt
        have hms := HM.out l[k] (by simp)
        have hms2 := hms
        unfold maxLen at hms2
        have hnext : l[k].2.2.size ≤ 1048576 → FitsVersion (l.take (k + 1)) := fun h p hp => by
          rw [List.take_succ_eq_append_getElem hlt, List.mem_append, List.mem_singleton] at hp
          rcases hp with hp | rfl
          · exact hft.out p hp
          · exact h
        have HN := Lib.hid hnext
        have HB := Lib.hid hb
        clear hnext hb
        generalize l[k] = p at *
        have hz := szVersion1 p.1 p.2.1 p.2.2 L
        by_cases hsz : (p.2.2.size : Int) ≤ L
        · rw [show szT L p.2.2.size = L - p.2.2.size from by unfold szT; rw [if_neg (by omega)]] at hz
          have HZ := Lib.hid hz
          clear hz
          go_wp2_with fail
          refine (HZ.out _ hms hL0 (by omega)).mono ?_
          rintro e w2 ⟨rfl, hb2⟩
          have HB2 := Lib.hid (Below_then HB.out hb2 (Nat.le_refl _))
          clear hb2
          go_wp2
          go_roundw
          case rel => exact ⟨k + 1, _, by omega, by go_num, rfl, by omega, by omega, HN.out (by omega), HB2.out⟩
          case measure => simp [intOf]; omega
        · rw [show szT L p.2.2.size = -1 from by unfold szT; rw [if_pos (by omega)]] at hz
          have HZ := Lib.hid hz
          clear hz
          go_wp2_with fail
          refine (HZ.out _ hms hL0 (by omega)).mono ?_
          rintro e w2 ⟨rfl, hb2⟩
          have HB2 := Lib.hid (Below_then HB.out hb2 (Nat.le_refl _))
          clear hb2
          go_wp2
          go_ret
          exact ⟨-1, rfl, by omega, fun h => absurd h (by omega), HB2.out⟩
      · go_wp2
        go_ret
        refine ⟨L, rfl, hL1, fun _ => ⟨by omega, ?_⟩, hb⟩
        have h := hft.out; rwa [List.take_of_length_le (by omega)] at h
  · go_enter Tryz.func75, Tryz.ntmps75
    go_wp2
    go_ret
    exact ⟨-1, rfl, by omega, fun h => absurd h (by omega), Below.refl _ _⟩
set_option maxHeartbeats 4000000 in
set_option maxRecDepth 100000 in
theorem eqVersion1 (a0 : Int) (a1 : Int) (a2 : ByteArray) (w : World) :
    Calls Tryz.prog 158 #[.agg #[.int .i64 a0, .int .i64 a1, .string a2], .agg #[.int .i64 a0, .int .i64 a1, .string a2]] w fun e w' => e = .returned (.bool true) ∧ Below w.heap.size w w' := by
  go_enter Tryz.func158, Tryz.ntmps158
  go_wp2
  go_ret
  exact ⟨rfl, ((Below.refl _ _).alloc (Nat.le_refl _) _).alloc (by simp) _⟩
set_option maxHeartbeats 4000000 in
set_option maxRecDepth 100000 in
theorem eqVersionS_same (A B : Option Addr) (c d : Nat) (l : List Vr) (w : World) (ha : Sl w encV 3 A l) (hb : Sl w encV 3 B l) (hl : l.length ≤ 16777216) :
    Calls Tryz.prog 94 #[.slice A l.length c, .slice B l.length d] w fun e w' => e = .returned (.bool true) ∧ Below w.heap.size w w' := by
  have HA := Lib.hid ha
  have HB := Lib.hid hb
  clear ha hb
  go_enter Tryz.func94, Tryz.ntmps94
  go_wp2
  go_loopw [5] (fun i wr => ∃ (k : Nat), k ≤ l.length ∧ i = .int .i64 k ∧ Below w.heap.size w wr) (fun i _ => l.length - (intOf i).toNat)
  case atStart => exact ⟨0, Nat.zero_le _, rfl, Below.refl _ _⟩
  case round =>
    obtain ⟨k, hk, rfl, hbw⟩ := hrel
    have HW := Lib.hid hbw
    clear hbw
    by_cases hlt : k < l.length
    · obtain ⟨b1, o1, rfl, hc0, hc1, hc2⟩ := (HA.out.below HW.out).getV hlt
      obtain ⟨b2, o2, rfl, hd0, hd1, hd2⟩ := (HB.out.below HW.out).getV hlt
      generalize l[k] = p at *
      replace hc0 := far_cell hc0
      replace hc1 := far_cell hc1
      replace hc2 := far_cell hc2
      replace hd0 := far_cell hd0
      replace hd1 := far_cell hd1
      replace hd2 := far_cell hd2
      go_wp2
      refine wp_region_far (by kernel_rfl) (by kernel_rfl) ?_
      repeat (go_big_quiet_step ((go_at_call 158; exact far_call (eqVersion1 _ _ _ _))))
      refine wpQuiet_nil ?_
      intro _ hwF
      obtain ⟨pF, hwF⟩ := hwF
      subst hwF
      go_wp2
      go_roundw
      case rel => exact ⟨k + 1, by omega, by go_num, Below_then HW.out (far_below _ _) (Nat.le_refl _)⟩
      case measure => simp [intOf]; omega
    · go_wp2
      go_ret
      exact ⟨rfl, HW.out⟩
def markVersionL (k n : Nat) : List Vr := (List.range n).map fun j => (((k + 3 * j + 0 : Nat) : Int), ((k + 3 * j + 1 : Nat) : Int), mk (markT (k + 3 * j + 2)))
theorem markVersionL_len (k n : Nat) : (markVersionL k n).length = n := by simp [markVersionL]
theorem markVersionL_succ (k n : Nat) : markVersionL k (n + 1) = markVersionL k n ++ [(((k + 3 * n + 0 : Nat) : Int), ((k + 3 * n + 1 : Nat) : Int), mk (markT (k + 3 * n + 2)))] := by simp [markVersionL, List.range_succ]
theorem markVersionL_at {k n j : Nat} (h : j < n) : (markVersionL k n)[j]'(by rw [markVersionL_len]; exact h) = (((k + 3 * j + 0 : Nat) : Int), ((k + 3 * j + 1 : Nat) : Int), mk (markT (k + 3 * j + 2))) := by simp [markVersionL]
set_option maxHeartbeats 4000000 in
set_option maxRecDepth 100000 in
theorem markVersionS_any (base : Nat) (v : Value) (l : List Vr) (k : Nat) (w : World) (h : Own w base 102 3 encV v l) (hl : l.length ≤ 16777216) (hk : k ≤ 100000000) :
    Calls Tryz.prog 95 #[v, .int .i64 k] w (Marked 102 3 encV base v (markVersionL k l.length) (k + 3 * l.length) w) := by
  by_cases h0 : 0 < l.length
  · obtain ⟨g, cap, rfl, hg, hlc, hcm, hf⟩ := h.row h0
    have HF := Lib.hid hf
    have hcm' := hcm
    unfold maxLen at hcm'
    clear hf h
    go_enter Tryz.func95, Tryz.ntmps95
    go_wp2
    go_loopw [1, 5] (fun sk si wr => ∃ (j K : Nat), j ≤ l.length ∧ si = .int .i64 (j : Int) ∧ sk = .int .i64 (K : Int) ∧ Hid (K = k + 3 * j) ∧ K ≤ 300000000 ∧ Filled wr g (cap * 3) 102 (flat encV (markVersionL k j)) ∧ Grew (.slice (some ⟨g, 0, none⟩) l.length cap) w wr) (fun _ si _ => l.length - (intOf si).toNat)
    case atStart => exact ⟨0, k, Nat.zero_le _, rfl, rfl, rfl, by omega, HF.out, Grew.refl _ _⟩
    case round =>
      obtain ⟨j, K, hj, rfl, rfl, hK, hKb, hf, hg2⟩ := hrel
      by_cases hlt : j < l.length
      · have hlen : (flat encV (markVersionL k j)).length = j * 3 := by rw [flat_length (size := 3) (fun _ => rfl), markVersionL_len]
        have hsucc : flat encV (markVersionL k (j + 1)) = flat encV (markVersionL k j) ++ [Value.int .i64 ((K + 0 : Nat) : Int), Value.int .i64 ((K + 1 : Nat) : Int), .string (mk (markT (K + 2)))] := by
          rw [markVersionL_succ, flat_snoc]; have := hK.out; subst this; rfl
        have HSC := Lib.hid hsucc
        have HLN := Lib.hid hlen
        have HK := hK
        have HF0 := Lib.hid hf
        have HG0 := Lib.hid hg2
        clear hsucc hlen hK hf hg2
        generalize flat encV (markVersionL k j) = D at *
        obtain ⟨u0, hu0⟩ := HF0.out.cell (j := j * 3) (by omega)
        have hr0 := HF0.out.free (j * 3)
        obtain ⟨u1, hu1⟩ := HF0.out.cell (j := j * 3 + 1) (by omega)
        have hr1 := HF0.out.free (j * 3 + 1)
        go_wp2_with fail
        refine (markText_at _ (K + 2) (by omega) _ (by omega)).mono ?_
        rintro e w3 ⟨rfl, hb3⟩
        have hst2 := Filled.stores_of [Value.int .i64 ((K + 0 : Nat) : Int), Value.int .i64 ((K + 1 : Nat) : Int)] (j := j * 3) HF0.out (by simp [HLN.out]) (by simp; omega)
        have HF3 := Lib.hid (hst2.below hb3)
        have HG3 := Lib.hid ((Grew.set (Grew.set (HG0.out) rfl _) rfl _).trans (Grew.below hb3))
        clear hb3 hu0 hr0 hu1 hr1 hst2
        obtain ⟨u2, hu2⟩ := HF3.out.cell (j := j * 3 + 2) (by omega)
        have hr2 := HF3.out.free (j * 3 + 2)
        have HST := Lib.hid (Filled.stores_of [.string (mk (markT (K + 2)))] (j := j * 3 + 2) HF3.out (by simp [HLN.out]) (by simp; omega))
        go_wp2
        go_roundw
        case rel => exact ⟨j + 1, K + 3, by omega, by go_num, by go_num, by show _ = _; rw [HK.out]; omega, by have := HK.out; omega, by rw [HSC.out]; have h := HST.out; simpa [setAll, Nat.add_assoc, Int.add_assoc] using h, Grew.set (HG3.out) rfl _⟩
        case measure => simp [intOf]; omega
      · have hjl : j = l.length := by omega
        subst hjl
        have HG2 := Lib.hid hg2
        have HF2 := Lib.hid hf
        clear hg2 hf
        go_wp2
        go_ret
        have ho := HF2.out.ownc (base := base) (fun _ => rfl) hg hcm (by rw [markVersionL_len]; exact hlc)
        rw [markVersionL_len] at ho
        exact ⟨ret_int (by rw [hK.out]), ho, HG2.out⟩
  · have hz : l.length = 0 := by omega
    obtain ⟨A, c, hv, _, _, _⟩ := h.sl
    subst hv
    rw [hz] at h ⊢
    have H := Lib.hid h
    clear h
    go_enter Tryz.func95, Tryz.ntmps95
    go_wp2
    go_loopw [1, 5] (fun sk si wr => si = .int .i64 0 ∧ sk = .int .i64 (k : Int) ∧ w = wr) (fun _ _ _ => 0)
    case atStart => exact ⟨rfl, rfl, rfl⟩
    case round =>
      obtain ⟨rfl, rfl, rfl⟩ := hrel
      go_wp2
      go_ret
      exact ⟨rfl, H.out.empty hz (by rw [markVersionL_len]), Grew.refl _ _⟩
set_option maxHeartbeats 4000000 in
set_option maxRecDepth 100000 in
theorem heldVersionS_any (A : Option Addr) (c : Nat) (k n : Nat) (w : World) (hs : Sl w encV 3 A (markVersionL k n)) (hn : n ≤ 16777216) (hk : k ≤ 100000000) :
    Calls Tryz.prog 97 #[.slice A n c, .int .i64 k] w fun e w' => e = .returned (.int .i64 ((k + 3 * n : Nat) : Int)) ∧ Below w.heap.size w w' := by
  have HS := Lib.hid hs
  clear hs
  go_enter Tryz.func97, Tryz.ntmps97
  go_wp2
  go_loopw [1, 5] (fun sk si wr => ∃ (j K : Nat), j ≤ n ∧ si = .int .i64 (j : Int) ∧ sk = .int .i64 (K : Int) ∧ Hid (K = k + 3 * j) ∧ K ≤ 300000000 ∧ Below w.heap.size w wr) (fun _ si _ => n - (intOf si).toNat)
  case atStart => exact ⟨0, k, Nat.zero_le _, rfl, rfl, rfl, by omega, Below.refl _ _⟩
  case round =>
    obtain ⟨j, K, hj, rfl, rfl, hK, hKb, hb⟩ := hrel
    have HB0 := Lib.hid hb
    clear hb
    by_cases hlt : j < n
    · have HK := hK
      have hat := markVersionL_at (k := k) hlt
      rw [← hK.out] at hat
      clear hK
      obtain ⟨b, o, rfl, hc0, hc1, hc2⟩ := (HS.out.below HB0.out).getV (k := j) (by rw [markVersionL_len]; exact hlt)
      rw [hat] at hc0 hc1 hc2
      clear hat
      go_wp2
      have hf0 := far_cell hc0
      have hf1 := far_cell hc1
      have hf2 := far_cell hc2
      have HC := Lib.hid (And.intro hc0 (And.intro hc1 hc2))
      clear hc0 hc1 hc2
      refine wp_region_far (by kernel_rfl) (by kernel_rfl) ?_
      repeat (go_big_quiet_step ((go_at_call 74; exact far_call (markText_at _ (K + 2) (by omega) _ (by omega)))))
      refine wpQuiet_nil ?_
      intro _ hwF
      obtain ⟨pF, hwF⟩ := hwF
      subst hwF
      have HB3 := Lib.hid (Below_then HB0.out (far_below _ pF) (Nat.le_refl _))
      obtain ⟨hc0, hc1, hc2⟩ := HC.out
      replace hc0 := hf0 pF
      replace hc1 := hf1 pF
      replace hc2 := hf2 pF
      clear hf0 hf1 hf2 HC
      generalize far _ pF = wF2 at *
      go_wp2
      go_roundw
      case rel => exact ⟨j + 1, K + 3, by omega, by go_num, by go_num, by show _ = _; rw [HK.out]; omega, by have := HK.out; omega, HB3.out⟩
      case measure => simp [intOf]; omega
    · have hjl : j = n := by omega
      subst hjl
      go_wp2
      go_ret
      exact ⟨ret_int (by rw [hK.out]), HB0.out⟩
/-- What is told of a slice of such structs that came in. -/
def VersionsIn (w : World) (A : Option Addr) (n c : Nat) : Prop := ∃ l : List Vr, l.length = n ∧ n ≤ c ∧ c ≤ maxLen ∧ Sl w encV 3 A l ∧ ∀ p ∈ l, p.2.2.size ≤ maxLen
end Go.Proofs.YtaghiefokmapmaaGreatDoor

/- Arguments that came in: slices of structs. -/
set_option linter.unusedVariables false
namespace Go.Proofs.YtaghiefokmapmaaGreatDoor
open Go.ChangeShapes Go.WideShapes Go.ChangeAt Go.RowKit
open Go.ChangeMaps (open_string shut_string)

theorem list_of {α : Type} {P : Nat → α → Prop} : ∀ n : Nat, (∀ i, i < n → ∃ x, P i x) → ∃ l : List α, l.length = n ∧ ∀ i x, l[i]? = some x → P i x
  | 0, _ => ⟨[], rfl, fun i x h => by simp at h⟩
  | n + 1, h => by
    obtain ⟨l, hl, hp⟩ := list_of n (fun i hi => h i (by omega))
    obtain ⟨y, hy⟩ := h n (by omega)
    refine ⟨l ++ [y], by simp [hl], fun i x hx => ?_⟩
    rw [List.getElem?_append] at hx
    split at hx
    · exact hp i x hx
    · rename_i hi
      have hlt := (List.getElem?_eq_some_iff.1 hx).1
      simp at hlt
      have e : i = n := by omega
      subst e
      rw [hl, Nat.sub_self] at hx
      simp at hx; subst hx; exact hy
section
variable {H : Type} {enc : TypeId × Value → H} {W : World} {a : Option Addr} {n c : Nat} {d : DataW H} {p : List MemPlace}
/-- Each element of a slice that came in, read by 'read'. -/
theorem rows_open {α : Type} {t e : TypeId} {fs : Array Field} (ht : Tryz.prog.underlying t = some (.slice e)) (he : Tryz.prog.underlying e = some (.struct fs)) (encA : α → List Value) (size : Nat) (good : α → Prop)
    (hC : Tryz.prog.cellsOf e = size) (hsz : 0 < size) (hlen : ∀ x, (encA x).length = size)
    (read : ∀ (cs : List Value) (q : Nat) (xs : List (DataW H × List MemPlace)), cs.length = size → xs.length = fs.size → (∀ (i : Nat) (f : Field), fs[i]? = some f → DataW.trod enc Tryz.prog W 0 (fun _ => true) true q f.type ((cs.drop f.offset).take (Tryz.prog.cellsOf f.type)) = xs[i]?) → ∃ x, good x ∧ cs = encA x)
    (h : DataW.Trod enc Tryz.prog W 0 (fun _ => true) true t (.slice a n c) d p) :
    ∃ l : List α, l.length = n ∧ n ≤ c ∧ c ≤ maxLen ∧ Sl W encA size a l ∧ ∀ x ∈ l, good x := by
  obtain ⟨fuel, hf⟩ := h
  rcases Go.Deep.open_slice ht hf with ⟨hcs, _⟩ | ⟨ad, len, cap, m, q, D, Pl, hcs, _, hl, hm, hmm, _, hel⟩
  · simp [Value.cells] at hcs
    obtain ⟨rfl, rfl, rfl⟩ := hcs
    exact ⟨[], rfl, Nat.le_refl _, by unfold maxLen; omega, Sl.none_, by simp⟩
  · simp [Value.cells] at hcs
    obtain ⟨rfl, rfl, rfl⟩ := hcs
    simp at hmm
    obtain ⟨l, hll, hp⟩ := list_of (P := fun i x => good x ∧ ∀ j u, (encA x)[j]? = some u → W.cell? (ad.add (i * size + j)) = some u) n (fun i hi => by
      obtain ⟨cs', hc, ht'⟩ := hel i (by omega)
      rw [hC] at hc
      obtain ⟨_, hcl, hat⟩ := World.cells?_some hc
      obtain ⟨xs, n', _, _, _, hxl, hfl⟩ := DataW.trod_struct he ht'
      obtain ⟨x, hg, rfl⟩ := read cs' n' xs hcl hxl hfl
      refine ⟨x, hg, fun j u hu => ?_⟩
      have hj : j < size := by rw [← hlen x]; exact (List.getElem?_eq_some_iff.1 hu).1
      rw [← Go.Deep.add_add, hat j hj, hu])
    refine ⟨l, hll, hl, hm, sl_of_add hsz hlen fun j u hu => ?_, fun x hx => ?_⟩
    · have hj : j < l.length * size := by
        have := (List.getElem?_eq_some_iff.1 hu).1
        rwa [flat_length hlen] at this
      have hq : j / size < l.length := Nat.div_lt_of_lt_mul (by rwa [Nat.mul_comm] at hj)
      have hdm := Nat.div_add_mod j size
      have hms := Nat.mod_lt j hsz
      have hg := flat_get hlen l (j / size) hq (j % size) hms
      have e : j / size * size + j % size = j := by rw [Nat.mul_comm]; exact hdm
      rw [e] at hg
      rw [hg] at hu
      have := (hp (j / size) l[j / size] (List.getElem?_eq_getElem hq)).2 (j % size) u hu
      rwa [e] at this
    · obtain ⟨i, hi, rfl⟩ := List.getElem_of_mem hx
      exact (hp i _ (List.getElem?_eq_getElem hi)).1
set_option maxRecDepth 100000 in
theorem openPieces (h : DataW.Trod enc Tryz.prog W 0 (fun _ => true) true 22 (.slice a n c) d p) : PiecesIn W a n c := by
  refine rows_open Tryz.underlying22 Tryz.underlying87 encP 2 (fun p => p.2.size ≤ maxLen) (by kernel_rfl) (by omega) (fun _ => rfl) ?_ h
  intro cs q xs hcl hxl hf
  match cs, hcl with
  | [v0, v1], _ =>
    match xs, hxl with
    | [x0, x1], _ =>
      obtain ⟨x, e0, _, _⟩ := DataW.trod_int Tryz.underlying3 (hf 0 _ rfl)
      obtain ⟨t, e1, _, ht⟩ := DataW.trod_string Tryz.underlying9 (hf 1 _ rfl)
      have k0 : Tryz.prog.cellsOf 3 = 1 := by kernel_rfl
      have k1 : Tryz.prog.cellsOf 9 = 1 := by kernel_rfl
      simp [k0] at e0
      simp [k1] at e1
      subst e0 e1
      exact ⟨(x, t), ht, rfl⟩
set_option maxRecDepth 100000 in
theorem openVersions (h : DataW.Trod enc Tryz.prog W 0 (fun _ => true) true 39 (.slice a n c) d p) : VersionsIn W a n c := by
  refine rows_open Tryz.underlying39 Tryz.underlying142 encV 3 (fun p => p.2.2.size ≤ maxLen) (by kernel_rfl) (by omega) (fun _ => rfl) ?_ h
  intro cs q xs hcl hxl hf
  match cs, hcl with
  | [v0, v1, v2], _ =>
    match xs, hxl with
    | [x0, x1, x2], _ =>
      obtain ⟨x, e0, _, _⟩ := DataW.trod_int Tryz.underlying3 (hf 0 _ rfl)
      obtain ⟨y, e1, _, _⟩ := DataW.trod_int Tryz.underlying3 (hf 1 _ rfl)
      obtain ⟨t, e2, _, ht⟩ := DataW.trod_string Tryz.underlying9 (hf 2 _ rfl)
      have k0 : Tryz.prog.cellsOf 3 = 1 := by kernel_rfl
      have k1 : Tryz.prog.cellsOf 9 = 1 := by kernel_rfl
      simp [k0] at e0
      simp [k0] at e1
      simp [k1] at e2
      subst e0 e1 e2
      exact ⟨(x, y, t), ht, rfl⟩
end
end Go.Proofs.YtaghiefokmapmaaGreatDoor

/- Closed facts on the translation's head line, which is long: its words are read off a list of numbers, once; and the facts on the whole program, each by itself. -/
set_option linter.unusedVariables false
namespace Go.Proofs.YtaghiefokmapmaaGreatDoor
open Go
def headNums : List Nat := [104, 97, 114, 110, 101, 115, 115, 32, 100, 53, 56, 98, 55, 48, 100, 52, 55, 57, 55, 101, 100, 50, 100, 101, 102, 54, 53, 101, 54, 99, 57, 48, 55, 56, 53, 48, 57, 54, 97, 100, 51, 100, 100, 100, 57, 102, 48, 49, 98, 97, 53, 54, 56, 49, 50, 54, 97, 97, 102, 51, 51, 101, 56, 102, 52, 49, 98, 98, 54, 49, 54, 51, 32, 99, 117, 116, 32, 97, 116, 32, 108, 111, 111, 112, 46, 101, 120, 97, 109, 112, 108, 101, 47, 112, 114, 111, 111, 102, 97, 114, 99, 104, 105, 118, 101, 47, 108, 97, 119, 115, 46, 70, 110, 69, 120, 97, 99, 116, 79, 118, 101, 114, 81, 117, 111, 116, 97, 115, 32, 108, 111, 111, 112, 46, 101, 120, 97, 109, 112, 108, 101, 47, 112, 114, 111, 111, 102, 97, 114, 99, 104, 105, 118, 101, 47, 108, 97, 119, 115, 46, 70, 110, 69, 120, 97, 99, 116, 65, 114, 99, 104, 105, 118, 101, 76, 105, 110, 101, 32, 108, 111, 111, 112, 46, 101, 120, 97, 109, 112, 108, 101, 47, 112, 114, 111, 111, 102, 97, 114, 99, 104, 105, 118, 101, 47, 108, 97, 119, 115, 46, 70, 110, 69, 120, 97, 99, 116, 65, 114, 99, 104, 105, 118, 101, 76, 105, 110, 101, 115, 32, 108, 111, 111, 112, 46, 101, 120, 97, 109, 112, 108, 101, 47, 112, 114, 111, 111, 102, 97, 114, 99, 104, 105, 118, 101, 47, 108, 97, 119, 115, 46, 70, 110, 78, 101, 119, 65, 114, 99, 104, 105, 118, 101, 32, 108, 111, 111, 112, 46, 101, 120, 97, 109, 112, 108, 101, 47, 112, 114, 111, 111, 102, 97, 114, 99, 104, 105, 118, 101, 47, 108, 97, 119, 115, 46, 70, 110, 85, 115, 101, 100, 66, 101, 108, 111, 119, 32, 108, 111, 111, 112, 46, 101, 120, 97, 109, 112, 108, 101, 47, 112, 114, 111, 111, 102, 97, 114, 99, 104, 105, 118, 101, 47, 108, 97, 119, 115, 46, 70, 110, 70, 105, 108, 101, 115, 87, 105, 116, 104, 32, 108, 111, 111, 112, 46, 101, 120, 97, 109, 112, 108, 101, 47, 112, 114, 111, 111, 102, 97, 114, 99, 104, 105, 118, 101, 47, 108, 97, 119, 115, 46, 70, 110, 79, 118, 101, 114, 81, 117, 111, 116, 97, 115, 32, 108, 111, 111, 112, 46, 101, 120, 97, 109, 112, 108, 101, 47, 112, 114, 111, 111, 102, 97, 114, 99, 104, 105, 118, 101, 47, 108, 97, 119, 115, 46, 70, 110, 84, 111, 116, 97, 108, 83, 105, 122, 101, 32, 108, 111, 111, 112, 46, 101, 120, 97, 109, 112, 108, 101, 47, 112, 114, 111, 111, 102, 97, 114, 99, 104, 105, 118, 101, 47, 108, 97, 119, 115, 46, 70, 110, 86, 101, 114, 115, 105, 111, 110, 115, 83, 116, 97, 121, 32, 108, 111, 111, 112, 46, 101, 120, 97, 109, 112, 108, 101, 47, 112, 114, 111, 111, 102, 97, 114, 99, 104, 105, 118, 101, 47, 108, 97, 119, 115, 46, 70, 110, 82, 101, 97, 100, 66, 97, 99, 107, 32, 108, 111, 111, 112, 46, 101, 120, 97, 109, 112, 108, 101, 47, 112, 114, 111, 111, 102, 97, 114, 99, 104, 105, 118, 101, 47, 108, 97, 119, 115, 46, 70, 110, 65, 114, 99, 104, 105, 118, 101, 76, 105, 110, 101, 32, 108, 111, 111, 112, 46, 101, 120, 97, 109, 112, 108, 101, 47, 112, 114, 111, 111, 102, 97, 114, 99, 104, 105, 118, 101, 47, 108, 97, 119, 115, 46, 70, 110, 65, 114, 99, 104, 105, 118, 101, 76, 105, 110, 101, 115]
def headChars : List Char := headNums.map Char.ofNat
set_option maxRecDepth 1000000 in
theorem head_of : Tryz.prog.initOrder = String.ofList headChars := by kernel_rfl
theorem head_list : Tryz.prog.initOrder.toList = headChars := by rw [head_of, String.toList_ofList]
set_option maxRecDepth 1000000 in
theorem words_head : ((behindMainWord (wordsSigns headChars)).head? == some "cut".toList) = true := by kernel_rfl
theorem words_of : ∃ tl, behindMainWord (wordsSigns headChars) = "cut".toList :: tl := by
  have h := words_head
  cases hw : behindMainWord (wordsSigns headChars) with
  | nil => rw [hw] at h; cases h
  | cons c tl => rw [hw] at h; refine ⟨tl, ?_⟩; rw [List.head?_cons] at h; have := (beq_iff_eq.1 h); injection this with e; rw [e]
theorem strip_cut (tl : List (List Char)) : stripLifts liftWords ("cut".toList :: tl) = ([], "cut".toList :: tl) := by
  simp [liftWords, stripLifts]
theorem make_of (P : Program) (tl : List (List Char)) (h : behindMainWord (wordsSigns P.initOrder.toList) = "cut".toList :: tl) : P.make = some .cut := by
  unfold Program.make; rw [h]; simp
theorem lifts_of (P : Program) (tl : List (List Char)) (h : behindMainWord (wordsSigns P.initOrder.toList) = "cut".toList :: tl) : P.liftsFinal = false := by
  unfold Program.liftsFinal Program.headLifts; rw [h, strip_cut]; simp
theorem may_of (P : Program) (tl : List (List Char)) (h : behindMainWord (wordsSigns P.initOrder.toList) = "cut".toList :: tl) (h1 : P.laysLater = false) (h2 : P.bearsReflect = false) (h3 : P.doorFits [] = true) : P.mayEnter = true := by
  unfold Program.mayEnter; rw [h]; simp only [strip_cut, h1, h2, h3]; simp
theorem lat : Tryz.prog.laysLater = false := by kernel_rfl
theorem refl_ : Tryz.prog.bearsReflect = false := by kernel_rfl
theorem door : Tryz.prog.doorFits [] = true := by kernel_rfl
theorem words_prog : ∃ tl, behindMainWord (wordsSigns Tryz.prog.initOrder.toList) = "cut".toList :: tl := by
  rw [head_list]; exact words_of
theorem mke : Tryz.prog.make = some .cut := words_prog.elim fun tl h => make_of _ tl h
theorem lfts : Tryz.prog.liftsFinal = false := words_prog.elim fun tl h => lifts_of _ tl h
theorem may : Tryz.prog.mayEnter = true := words_prog.elim fun tl h => may_of _ tl h lat refl_ door
def mainL (cs : List Char) : Option (Bool × List Char) :=
  match wordsSigns cs with
  | h :: s :: _ => if !isSumSigns s then none else if h == "harness".toList then some (true, s) else if h == "ownmain".toList then some (false, s) else none
  | _ => none
theorem main_eq (x : Option (Bool × List Char)) (h : mainL headChars = x) : Tryz.prog.mainIs = x := by
  unfold Program.mainIs; rw [head_list]; exact h
theorem rowed : mapsRowed Tryz.prog = true := by kernel_rfl
theorem pkeys : Tryz.prog.plainKeys = true := by kernel_rfl
theorem heard : Tryz.prog.stopsHeard = true := by kernel_rfl
theorem laid_ : laidOutB Tryz.prog = true := by kernel_rfl
end Go.Proofs.YtaghiefokmapmaaGreatDoor

/- Stores of pieces, in plain Lean. No program in sight. -/
set_option linter.unusedVariables false
namespace Go.Proofs.YtaghiefokmapmaaGreatDoor
--BEGIN
abbrev tx (s : ByteArray) : Bs := s.data.toList
def pieceOk (p : Pc) : Bool := textV (tx p.2) && (prOf (tx p.2) == p.1)
def pc0 : Pc := (0, ⟨#[]⟩)
def storeAt (l : List Pc) (k : Nat) : Bool := pieceOk (l.getD k pc0) && (k == 0 || decide ((l.getD (k - 1) pc0).1 < (l.getD k pc0).1))
def storeV (l : List Pc) : Bool := decide (l.length ≤ 40) && (List.range l.length).all (storeAt l)
theorem getD_pc {l : List Pc} {k : Nat} (h : k < l.length) : l.getD k pc0 = l[k] := by rw [List.getD_eq_getElem?_getD, List.getElem?_eq_getElem h]; rfl
theorem pieceOk_iff {p : Pc} : pieceOk p = true ↔ textV (tx p.2) = true ∧ prOf (tx p.2) = p.1 := by unfold pieceOk; rw [Bool.and_eq_true, beq_iff_eq]
theorem pieceOk_pv {p : Pc} (h : pieceOk p = true) : pv p.1 = true := by
  obtain ⟨h1, h2⟩ := pieceOk_iff.1 h; rw [← h2]; exact prOf_pv h1
def Sorted (l : List Pc) : Prop := l.Pairwise fun a b => a.1 < b.1
theorem storeV_iff {l : List Pc} : storeV l = true ↔ l.length ≤ 40 ∧ (∀ p ∈ l, pieceOk p = true) ∧ Sorted l := by
  unfold storeV
  rw [Bool.and_eq_true, decide_eq_true_eq, List.all_eq_true]
  constructor
  · rintro ⟨h1, h2⟩
    have hk : ∀ k (h : k < l.length), pieceOk l[k] = true ∧ (k = 0 ∨ (l.getD (k - 1) pc0).1 < l[k].1) := by
      intro k h
      have := h2 k (List.mem_range.2 h)
      unfold storeAt at this
      rw [Bool.and_eq_true, Bool.or_eq_true, beq_iff_eq, decide_eq_true_eq, getD_pc h] at this
      exact this
    refine ⟨h1, fun p hp => ?_, ?_⟩
    · obtain ⟨k, h, rfl⟩ := List.getElem_of_mem hp; exact (hk k h).1
    · refine List.pairwise_iff_getElem.2 ?_
      have aux : ∀ j (hj : j < l.length) i (hi : i < l.length), i < j → l[i].1 < l[j].1 := by
        intro j
        induction j with
        | zero => intro _ i _ h; omega
        | succ j ih =>
          intro hj i hi hij
          have h3 := (hk (j + 1) hj).2
          have h4 : l.getD (j + 1 - 1) pc0 = l[j] := getD_pc (k := j) (by omega)
          rw [h4] at h3
          rcases h3 with h3 | h3
          · omega
          · by_cases e : i = j
            · subst e; exact h3
            · have := ih (by omega) i hi (by omega); omega
      exact fun i j hi hj hij => aux j hj i hi hij
  · rintro ⟨h1, h2, h3⟩
    refine ⟨h1, fun k hk => ?_⟩
    rw [List.mem_range] at hk
    unfold storeAt
    rw [Bool.and_eq_true, Bool.or_eq_true, beq_iff_eq, decide_eq_true_eq, getD_pc hk]
    refine ⟨h2 _ (by simp), ?_⟩
    by_cases e : k = 0
    · exact .inl e
    · right
      rw [getD_pc (k := k - 1) (by omega)]
      exact List.pairwise_iff_getElem.1 h3 (k - 1) k (by omega) hk (by omega)
theorem storeV_len {l : List Pc} (h : storeV l = true) : l.length ≤ 40 := (storeV_iff.1 h).1
theorem storeV_sorted {l : List Pc} (h : storeV l = true) : Sorted l := (storeV_iff.1 h).2.2
theorem storeV_piece {l : List Pc} (h : storeV l = true) {p : Pc} (hp : p ∈ l) : pieceOk p = true := (storeV_iff.1 h).2.1 p hp
theorem storeV_bad {l : List Pc} {k : Nat} (h : k < l.length) (hb : storeAt l k = false) : storeV l = false := by
  cases hv : storeV l
  · rfl
  · unfold storeV at hv
    rw [Bool.and_eq_true, List.all_eq_true] at hv
    rw [hv.2 k (List.mem_range.2 h)] at hb; cases hb
theorem storeV_long {l : List Pc} (h : ¬ l.length ≤ 40) : storeV l = false := by
  unfold storeV; rw [decide_eq_false h]; rfl
def StoreUpto (l : List Pc) (k : Nat) : Prop := ∀ j, j < k → storeAt l j = true
theorem StoreUpto.zero (l : List Pc) : StoreUpto l 0 := fun j h => by omega
theorem StoreUpto.succ {l : List Pc} {k : Nat} (h : StoreUpto l k) (hk : storeAt l k = true) : StoreUpto l (k + 1) := fun j hj => by
  by_cases e : j = k
  · subst e; exact hk
  · exact h j (by omega)
theorem StoreUpto.done {l : List Pc} {k : Nat} (h : StoreUpto l k) (hk : ¬ k < l.length) (hl : l.length ≤ 40) : storeV l = true := by
  unfold storeV; rw [decide_eq_true hl, Bool.true_and, List.all_eq_true]
  intro j hj; rw [List.mem_range] at hj; exact h j (by omega)
theorem storeV_nil : storeV [] = true := rfl
theorem storeV_sub {l m : List Pc} (h : storeV l = true) (hs : m.Sublist l) : storeV m = true := by
  obtain ⟨h1, h2, h3⟩ := storeV_iff.1 h
  exact storeV_iff.2 ⟨Nat.le_trans hs.length_le h1, fun p hp => h2 p (hs.subset hp), h3.sublist hs⟩

/-! ### where a print stands -/
def below (l : List Pc) (p : Int) : Nat := (l.takeWhile fun x => decide (x.1 < p)).length
theorem below_le (l : List Pc) (p : Int) : below l p ≤ l.length := (List.takeWhile_sublist _).length_le
theorem below_of : ∀ (l : List Pc) (p : Int) (i : Nat), i ≤ l.length → (∀ t (h : t < l.length), t < i → l[t].1 < p) → (∀ h : i < l.length, ¬ l[i].1 < p) → below l p = i
  | [], p, i, hi, _, _ => by simp at hi; subst hi; rfl
  | x :: r, p, 0, _, _, h2 => by
    have := h2 (by simp)
    simp at this
    unfold below; rw [List.takeWhile_cons]
    rw [if_neg (by simpa using this)]; rfl
  | x :: r, p, i + 1, hi, h1, h2 => by
    have h0 := h1 0 (by simp) (by omega)
    simp at h0
    have ih := below_of r p i (by simpa using hi) (fun t h ht => h1 (t + 1) (Nat.succ_lt_succ h) (Nat.succ_lt_succ ht)) (fun h => h2 (Nat.succ_lt_succ h))
    unfold below at ih ⊢
    rw [List.takeWhile_cons, if_pos (by simpa using h0), List.length_cons, ih]
theorem below_lt : ∀ (l : List Pc) (p : Int) (t : Nat) (h : t < l.length), t < below l p → l[t].1 < p
  | x :: r, p, t, h, ht => by
    unfold below at ht
    rw [List.takeWhile_cons] at ht
    split at ht
    · rename_i hx
      cases t with
      | zero => simpa using hx
      | succ t => simpa using below_lt r p t (by simpa using h) (by unfold below; simpa using ht)
    · simp at ht
theorem below_ge : ∀ (l : List Pc) (p : Int) (h : below l p < l.length), ¬ l[below l p].1 < p
  | [], p, h => by simp at h
  | x :: r, p, h => by
    by_cases hx : x.1 < p
    · have e : below (x :: r) p = below r p + 1 := by unfold below; rw [List.takeWhile_cons, if_pos (by simpa using hx)]; rfl
      have h' : below r p < r.length := by rw [e] at h; simpa using h
      have := below_ge r p h'
      simp only [e, List.getElem_cons_succ]; exact this
    · have e : below (x :: r) p = 0 := by unfold below; rw [List.takeWhile_cons, if_neg (by simpa using hx)]; rfl
      simp only [e, List.getElem_cons_zero]; exact hx
def hereP (l : List Pc) (p : Int) : Bool := decide (below l p < l.length) && decide ((l.getD (below l p) pc0).1 = p)
def getT (l : List Pc) (p : Int) : Option ByteArray := (l.find? fun x => x.1 == p).map (·.2)
theorem getT_some {l : List Pc} {p : Int} {t : ByteArray} (h : getT l p = some t) : (p, t) ∈ l := by
  unfold getT at h
  obtain ⟨x, hx, rfl⟩ := Option.map_eq_some_iff.1 h
  have h1 := List.mem_of_find?_eq_some hx
  have h2 := List.find?_some hx
  simp at h2
  rw [← h2]; exact h1
theorem getT_none {l : List Pc} {p : Int} (h : getT l p = none) : ∀ x ∈ l, x.1 ≠ p := by
  unfold getT at h
  rw [Option.map_eq_none_iff, List.find?_eq_none] at h
  intro x hx e; exact h x hx (by simp [e])
theorem getT_none_iff {l : List Pc} {p : Int} : getT l p = none ↔ ∀ x ∈ l, x.1 ≠ p := by
  refine ⟨getT_none, fun h => ?_⟩
  unfold getT
  rw [Option.map_eq_none_iff, List.find?_eq_none]
  intro x hx; simpa using h x hx
theorem sorted_inj {l : List Pc} (h : Sorted l) {a b : Pc} (ha : a ∈ l) (hb : b ∈ l) (e : a.1 = b.1) : a = b := by
  obtain ⟨i, hi, rfl⟩ := List.getElem_of_mem ha
  obtain ⟨j, hj, rfl⟩ := List.getElem_of_mem hb
  have hp := List.pairwise_iff_getElem.1 h
  by_cases h1 : i < j
  · have := hp i j hi hj h1; omega
  · by_cases h2 : j < i
    · have := hp j i hj hi h2; omega
    · have : i = j := by omega
      subst this; rfl
theorem getT_mem {l : List Pc} (hs : Sorted l) {p : Int} {t : ByteArray} (h : (p, t) ∈ l) : getT l p = some t := by
  cases hg : getT l p with
  | none => exact absurd rfl (getT_none hg _ h)
  | some u =>
    have := sorted_inj hs (getT_some hg) h rfl
    injection this with _ e; rw [e]
theorem below_sorted {l : List Pc} (hs : Sorted l) {p : Int} {t : Nat} (h : t < l.length) (ht : below l p ≤ t) : ¬ l[t].1 < p := by
  by_cases e : below l p = t
  · subst e; exact below_ge l p h
  · have h1 := below_ge l p (by omega)
    have h2 := List.pairwise_iff_getElem.1 hs (below l p) t (by omega) h (by omega)
    omega
theorem getT_here {l : List Pc} (hs : Sorted l) {p : Int} : getT l p = if hereP l p then some (l.getD (below l p) pc0).2 else none := by
  unfold hereP
  by_cases hlt : below l p < l.length
  · rw [decide_eq_true hlt, Bool.true_and, getD_pc hlt]
    by_cases e : l[below l p].1 = p
    · rw [decide_eq_true e, if_pos rfl]
      exact getT_mem hs (by
        have e2 : (p, l[below l p].2) = l[below l p] := Prod.ext e.symm rfl
        rw [e2]; exact List.getElem_mem hlt)
    · rw [decide_eq_false e, if_neg (by simp)]
      refine getT_none_iff.2 fun x hx hxe => ?_
      obtain ⟨t, ht, rfl⟩ := List.getElem_of_mem hx
      by_cases h1 : t < below l p
      · have := below_lt l p t ht h1; omega
      · have h2 := below_ge l p hlt
        by_cases e2 : below l p = t
        · subst e2; exact e hxe
        · have h3 := List.pairwise_iff_getElem.1 hs (below l p) t hlt ht (by omega)
          omega
  · rw [decide_eq_false hlt, Bool.false_and, if_neg (by simp)]
    refine getT_none_iff.2 fun x hx hxe => ?_
    obtain ⟨t, ht, rfl⟩ := List.getElem_of_mem hx
    have := below_lt l p t ht (by omega)
    omega

/-! ### one text more -/
def putT (l : List Pc) (t : ByteArray) : List Pc × Int × Bool :=
  if storeV l then
    if textV (tx t) then
      match getT l (prOf (tx t)) with
      | some u => if u = t then (l, prOf (tx t), true) else (l, -1, false)
      | none => if l.length = 40 then (l, -1, false) else (l.take (below l (prOf (tx t))) ++ (prOf (tx t), t) :: l.drop (below l (prOf (tx t))), prOf (tx t), true)
    else (l, -1, false)
  else ([], -1, false)
theorem putT_bad {l : List Pc} {t : ByteArray} (h : storeV l = false) : putT l t = ([], -1, false) := by unfold putT; rw [h]; rfl
theorem putT_text {l : List Pc} {t : ByteArray} (h : storeV l = true) (ht : textV (tx t) = false) : putT l t = (l, -1, false) := by unfold putT; rw [h, ht]; rfl
theorem putT_there {l : List Pc} {t : ByteArray} (h : storeV l = true) (ht : textV (tx t) = true) (hg : getT l (prOf (tx t)) = some t) : putT l t = (l, prOf (tx t), true) := by
  unfold putT; rw [h, ht, hg]; simp
theorem putT_clash {l : List Pc} {t u : ByteArray} (h : storeV l = true) (ht : textV (tx t) = true) (hg : getT l (prOf (tx t)) = some u) (hne : u ≠ t) : putT l t = (l, -1, false) := by
  unfold putT; rw [h, ht, hg]; simp [hne]
theorem putT_full {l : List Pc} {t : ByteArray} (h : storeV l = true) (ht : textV (tx t) = true) (hg : getT l (prOf (tx t)) = none) (hl : l.length = 40) : putT l t = (l, -1, false) := by
  unfold putT; rw [h, ht, hg]; simp [hl]
theorem putT_new {l : List Pc} {t : ByteArray} (h : storeV l = true) (ht : textV (tx t) = true) (hg : getT l (prOf (tx t)) = none) (hl : l.length ≠ 40) :
    putT l t = (l.take (below l (prOf (tx t))) ++ (prOf (tx t), t) :: l.drop (below l (prOf (tx t))), prOf (tx t), true) := by
  unfold putT; rw [h, ht, hg]; simp [hl]
theorem insert_sorted {l : List Pc} (hs : Sorted l) {x : Pc} (hx : ∀ y ∈ l, y.1 ≠ x.1) : Sorted (l.take (below l x.1) ++ x :: l.drop (below l x.1)) := by
  unfold Sorted
  rw [List.pairwise_append, List.pairwise_cons]
  have hlo : ∀ a ∈ l.take (below l x.1), a.1 < x.1 := by
    intro a ha
    obtain ⟨t, ht, rfl⟩ := List.getElem_of_mem ha
    rw [List.length_take] at ht
    rw [List.getElem_take]
    exact below_lt l x.1 t (by omega) (by omega)
  have hhi : ∀ b ∈ l.drop (below l x.1), x.1 < b.1 := by
    intro b hb
    have hm := List.mem_of_mem_drop hb
    obtain ⟨t, ht, rfl⟩ := List.getElem_of_mem hb
    rw [List.length_drop] at ht
    rw [List.getElem_drop] at hm ⊢
    have h1 := below_sorted hs (p := x.1) (t := below l x.1 + t) (by omega) (by omega)
    have h2 := hx _ hm
    omega
  refine ⟨hs.sublist (List.take_sublist _ _), ⟨hhi, hs.sublist (List.drop_sublist _ _)⟩, fun a ha b hb => ?_⟩
  have h1 := hlo a ha
  rcases List.mem_cons.1 hb with rfl | hb
  · exact h1
  · have := hhi b hb; omega
/-- What a text that was put brings. -/
structure PutOk (l : List Pc) (t : ByteArray) (l' : List Pc) : Prop where
  valid : storeV l' = true
  mem : ∀ p, p ∈ l' ↔ p ∈ l ∨ p = (prOf (tx t), t)
  text : textV (tx t) = true
  len : l'.length ≤ l.length + 1
theorem putT_ok {l : List Pc} {t : ByteArray} (hok : (putT l t).2.2 = true) : storeV l = true ∧ PutOk l t (putT l t).1 ∧ (putT l t).2.1 = prOf (tx t) := by
  cases h : storeV l
  · rw [putT_bad h] at hok; cases hok
  cases ht : textV (tx t)
  · rw [putT_text h ht] at hok; cases hok
  cases hg : getT l (prOf (tx t)) with
  | some u =>
    by_cases e : u = t
    · subst e
      rw [putT_there h ht hg]
      refine ⟨rfl, ⟨h, fun p => ⟨.inl, fun hp => hp.elim id fun e => ?_⟩, ht, by simp⟩, rfl⟩
      rw [e]; exact getT_some hg
    · rw [putT_clash h ht hg e] at hok; cases hok
  | none =>
    by_cases hl : l.length = 40
    · rw [putT_full h ht hg hl] at hok; cases hok
    · rw [putT_new h ht hg hl]
      have hmem : ∀ p, p ∈ (l.take (below l (prOf (tx t))) ++ (prOf (tx t), t) :: l.drop (below l (prOf (tx t)))) ↔ p ∈ l ∨ p = (prOf (tx t), t) := by
        intro p
        rw [List.mem_append, List.mem_cons]
        constructor
        · rintro (hp | rfl | hp)
          · exact .inl (List.mem_of_mem_take hp)
          · exact .inr rfl
          · exact .inl (List.mem_of_mem_drop hp)
        · rintro (hp | rfl)
          · rw [← List.take_append_drop (below l (prOf (tx t))) l, List.mem_append] at hp
            rcases hp with hp | hp
            · exact .inl hp
            · exact .inr (.inr hp)
          · exact .inr (.inl rfl)
      have hlen : (l.take (below l (prOf (tx t))) ++ (prOf (tx t), t) :: l.drop (below l (prOf (tx t)))).length = l.length + 1 := by
        have := below_le l (prOf (tx t)); simp; omega
      refine ⟨rfl, ⟨storeV_iff.2 ⟨by have := storeV_len h; rw [hlen]; omega, fun p hp => ?_, insert_sorted (storeV_sorted h) (x := (prOf (tx t), t)) (getT_none hg)⟩, hmem, ht, by rw [hlen]; omega⟩, rfl⟩
      rcases (hmem p).1 hp with hp | rfl
      · exact storeV_piece h hp
      · exact pieceOk_iff.2 ⟨ht, rfl⟩
theorem putT_no {l : List Pc} {t : ByteArray} (h : storeV l = true) (hok : (putT l t).2.2 = false) : putT l t = (l, -1, false) := by
  cases ht : textV (tx t)
  · exact putT_text h ht
  cases hg : getT l (prOf (tx t)) with
  | some u =>
    by_cases e : u = t
    · subst e
      rw [putT_there h ht hg] at hok; cases hok
    · exact putT_clash h ht hg e
  | none =>
    by_cases hl : l.length = 40
    · exact putT_full h ht hg hl
    · rw [putT_new h ht hg hl] at hok; cases hok
theorem putT_len (l : List Pc) (t : ByteArray) : (putT l t).1.length ≤ 40 := by
  cases h : storeV l
  · rw [putT_bad h]; simp
  · cases hok : (putT l t).2.2
    · rw [putT_no h hok]; exact storeV_len h
    · exact storeV_len (putT_ok hok).2.1.valid
theorem putT_bd (l : List Pc) (t : ByteArray) : -1 ≤ (putT l t).2.1 ∧ (putT l t).2.1 ≤ 16777212 := by
  have hb := prOf_bd (tx t)
  cases h : storeV l
  · rw [putT_bad h]; simp
  · cases hok : (putT l t).2.2
    · rw [putT_no h hok]; simp
    · rw [(putT_ok hok).2.2]; exact hb
/-- When a text can be put. -/
theorem putT_can {l : List Pc} {t : ByteArray} : (putT l t).2.2 = true ↔ storeV l = true ∧ textV (tx t) = true ∧ (∀ u, (prOf (tx t), u) ∈ l → u = t) ∧ ((prOf (tx t), t) ∈ l ∨ l.length < 40) := by
  constructor
  · intro hok
    cases h : storeV l
    · rw [putT_bad h] at hok; cases hok
    cases ht : textV (tx t)
    · rw [putT_text h ht] at hok; cases hok
    refine ⟨rfl, rfl, ?_⟩
    cases hg : getT l (prOf (tx t)) with
    | some u =>
      by_cases e : u = t
      · subst e
        exact ⟨fun v hv => by have := getT_mem (storeV_sorted h) hv; rw [hg] at this; injection this with e; exact e.symm, .inl (getT_some hg)⟩
      · rw [putT_clash h ht hg e] at hok; cases hok
    | none =>
      by_cases hl : l.length = 40
      · rw [putT_full h ht hg hl] at hok; cases hok
      · exact ⟨fun v hv => absurd rfl (getT_none hg _ hv), .inr (by have := storeV_len h; omega)⟩
  · rintro ⟨h, ht, h1, h2⟩
    cases hg : getT l (prOf (tx t)) with
    | some u =>
      have := h1 u (getT_some hg)
      subst this
      rw [putT_there h ht hg]
    | none =>
      rw [putT_new h ht hg]
      rcases h2 with h2 | h2
      · exact absurd rfl (getT_none hg _ h2)
      · omega
/-- Two stores with the same pieces are the same. -/
theorem sorted_ext : ∀ {a b : List Pc}, Sorted a → Sorted b → (∀ p, p ∈ a ↔ p ∈ b) → a = b := by
  intro a b ha hb h
  have na : a.Nodup := ha.imp (fun h e => by subst e; omega)
  have nb : b.Nodup := hb.imp (fun h e => by subst e; omega)
  have hp : a.Perm b := (List.perm_ext_iff_of_nodup na nb).2 h
  exact hp.eq_of_pairwise (le := fun x y : Pc => x.1 < y.1) (fun x y _ _ h1 h2 => by omega) ha hb
theorem store_ext {a b : List Pc} (ha : storeV a = true) (hb : storeV b = true) (h : ∀ p, p ∈ a ↔ p ∈ b) : a = b := sorted_ext (storeV_sorted ha) (storeV_sorted hb) h
theorem store_keep {l : List Pc} {t : ByteArray} {l' : List Pc} (h : PutOk l t l') {p : Int} {u : ByteArray} (hu : (p, u) ∈ l) : getT l' p = some u := getT_mem (storeV_sorted h.valid) ((h.mem _).2 (.inl hu))
theorem store_put {l : List Pc} {t : ByteArray} {l' : List Pc} (h : PutOk l t l') : getT l' (prOf (tx t)) = some t := getT_mem (storeV_sorted h.valid) ((h.mem _).2 (.inr rfl))

/-! ### the right pieces of a list -/
def rightF : List Pc → List Pc → Option (List Pc)
  | s, [] => some s
  | s, p :: r => if pieceOk p then (if (putT s p.2).2.2 then rightF (putT s p.2).1 r else none) else rightF s r
def rightP (l : List Pc) : List Pc × Bool := match rightF [] l with | some s => (s, true) | none => ([], false)
theorem rightF_ok : ∀ (l s s' : List Pc), storeV s = true → rightF s l = some s' → storeV s' = true ∧ (∀ p, p ∈ s' ↔ p ∈ s ∨ (p ∈ l ∧ pieceOk p = true)) ∧ s'.length ≤ s.length + l.length
  | [], s, s', hs, h => by
    rw [rightF] at h; injection h with h; subst h
    exact ⟨hs, fun p => by simp, by simp⟩
  | q :: r, s, s', hs, h => by
    rw [rightF] at h
    cases hq : pieceOk q
    · rw [hq] at h
      have ih := rightF_ok r s s' hs h
      refine ⟨ih.1, fun p => ?_, by have := ih.2.2; simp; omega⟩
      rw [ih.2.1 p, List.mem_cons]
      constructor
      · rintro (h1 | h1)
        · exact .inl h1
        · exact .inr ⟨.inr h1.1, h1.2⟩
      · rintro (h1 | ⟨rfl | h1, h2⟩)
        · exact .inl h1
        · rw [hq] at h2; cases h2
        · exact .inr ⟨h1, h2⟩
    · rw [hq, if_pos rfl] at h
      split at h
      · rename_i hok
        obtain ⟨_, hp, _⟩ := putT_ok hok
        have ih := rightF_ok r _ s' hp.valid h
        have he : (prOf (tx q.2), q.2) = q := by rw [(pieceOk_iff.1 hq).2]
        refine ⟨ih.1, fun p => ?_, by have := ih.2.2; have := hp.len; simp; omega⟩
        rw [ih.2.1 p, hp.mem p, he, List.mem_cons]
        constructor
        · rintro ((h1 | rfl) | h1)
          · exact .inl h1
          · exact .inr ⟨.inl rfl, hq⟩
          · exact .inr ⟨.inr h1.1, h1.2⟩
        · rintro (h1 | ⟨rfl | h1, h2⟩)
          · exact .inl (.inl h1)
          · exact .inl (.inr rfl)
          · exact .inr ⟨h1, h2⟩
      · cases h
--END
end Go.Proofs.YtaghiefokmapmaaGreatDoor

/- Hexadecimal texts, in plain Lean. No program in sight. -/
set_option linter.unusedVariables false
namespace Go.Proofs.YtaghiefokmapmaaGreatDoor
--BEGIN
def hexD (d : Nat) : UInt8 := if d < 10 then UInt8.ofNat (48 + d) else UInt8.ofNat (87 + d)
def hexF : Nat → Nat → Bs
  | 0, _ => []
  | f + 1, n => if n < 16 then [hexD n] else hexF f (n / 16) ++ [hexD (n % 16)]
def hexT (n : Int) : Bs := if pv n then hexF 7 n.toNat else []
def hexV (c : UInt8) : Option Nat := if digitC c then some (c.toNat - 48) else if inI c.toNat 97 102 then some (c.toNat - 87) else none
def hexN : Nat → Bs → Option Nat
  | n, [] => some n
  | n, c :: r => match hexV c with
    | some d => hexN (16 * n + d) r
    | none => none
def readH (s : Bs) : Int :=
  if 1 ≤ s.length ∧ s.length ≤ 6 then
    match hexN 0 s with
    | some n => if hexT n = s then (n : Int) else -1
    | none => -1
  else -1
theorem hexV_hexD : ∀ d, d < 16 → hexV (hexD d) = some d := by decide
theorem hexV_lt {c : UInt8} {d : Nat} (h : hexV c = some d) : d < 16 := by
  unfold hexV at h
  split at h
  · rename_i h1; unfold digitC inI at h1; simp at h1 h; omega
  · split at h
    · rename_i h1; unfold inI at h1; simp at h1 h; omega
    · cases h
theorem hexN_append : ∀ (a : Bs) (n : Nat) (b : Bs), hexN n (a ++ b) = (hexN n a).bind fun m => hexN m b
  | [], n, b => rfl
  | c :: r, n, b => by
    rw [List.cons_append, hexN, hexN]
    cases hexV c with
    | none => rfl
    | some d => exact hexN_append r _ b
theorem hexN_hexF : ∀ (f n : Nat), n < 16 ^ f → hexN 0 (hexF f n) = some n
  | 0, n, h => by have : n = 0 := by simpa using h
                  subst this; rfl
  | f + 1, n, h => by
    rw [hexF]
    split
    · rename_i h1
      rw [hexN, hexV_hexD n h1]; simp [hexN]
    · rw [hexN_append, hexN_hexF f (n / 16) (by rw [Nat.pow_succ] at h; omega)]
      show hexN (n / 16) [hexD (n % 16)] = some n
      rw [hexN, hexV_hexD (n % 16) (by omega)]
      simp only [hexN]; congr 1; omega
theorem hexF_len : ∀ (f n k : Nat), n < 16 ^ (k + 1) → (hexF f n).length ≤ k + 1
  | 0, n, k, _ => by simp [hexF]
  | f + 1, n, k, h => by
    rw [hexF]
    split
    · simp
    · rename_i h1
      cases k with
      | zero => simp at h; omega
      | succ k =>
        have := hexF_len f (n / 16) k (by rw [Nat.pow_succ] at h; omega)
        simp; omega
theorem hexF_ne (f n : Nat) : 1 ≤ (hexF (f + 1) n).length := by
  rw [hexF]; split <;> simp
theorem hexT_ok {n : Nat} (h : n ≤ 16777212) : hexT n = hexF 7 n := by
  unfold hexT; rw [if_pos (pv_iff.2 (by omega))]; rfl
theorem hexT_bad {n : Int} (h : pv n = false) : hexT n = [] := by unfold hexT; rw [h]; rfl
theorem hexT_len (n : Int) : (hexT n).length ≤ 6 := by
  unfold hexT; split
  · rename_i h
    have h2 := pv_iff.1 h
    exact hexF_len 7 n.toNat 5 (by have : n.toNat ≤ 16777212 := by omega
                                   have e : (16 : Nat) ^ (5 + 1) = 16777216 := by decide
                                   omega)
  · simp
theorem hexT_pos {n : Int} (h : pv n = true) : 1 ≤ (hexT n).length := by
  unfold hexT; rw [if_pos h]; exact hexF_ne 6 _
theorem hexN_hexT {n : Int} (h : pv n = true) : hexN 0 (hexT n) = some n.toNat := by
  unfold hexT; rw [if_pos h]
  have h2 := pv_iff.1 h
  exact hexN_hexF 7 n.toNat (by have : n.toNat ≤ 16777212 := by omega
                                have e : (16 : Nat) ^ 7 = 268435456 := by decide
                                omega)
theorem readH_hexT {n : Int} (h : pv n = true) : readH (hexT n) = n := by
  have h2 := pv_iff.1 h
  have e : ((n.toNat : Nat) : Int) = n := by omega
  unfold readH
  rw [if_pos ⟨hexT_pos h, hexT_len n⟩, hexN_hexT h]
  show (if hexT (n.toNat : Int) = hexT n then ((n.toNat : Nat) : Int) else -1) = n
  rw [e, if_pos rfl]
theorem readH_cases (s : Bs) : readH s = -1 ∨ ∃ n : Nat, readH s = n ∧ pv (n : Int) = true ∧ hexT n = s := by
  unfold readH
  split
  · rename_i hl
    cases h : hexN 0 s with
    | none => left; rfl
    | some n =>
      by_cases e : hexT n = s
      · right
        refine ⟨n, by simp [e], ?_, e⟩
        cases hp : pv (n : Int)
        · rw [hexT_bad hp] at e; subst e; simp at hl
        · rfl
      · left; simp [e]
  · left; rfl
theorem readH_bd (s : Bs) : -1 ≤ readH s ∧ readH s ≤ 16777212 := by
  rcases readH_cases s with h | ⟨n, h, hp, _⟩
  · omega
  · have := pv_iff.1 hp; omega
theorem readH_some {s : Bs} (h : 0 ≤ readH s) : pv (readH s) = true ∧ hexT (readH s) = s := by
  rcases readH_cases s with h1 | ⟨n, h1, hp, he⟩
  · omega
  · rw [h1]; exact ⟨hp, he⟩
theorem hexT_inj {a b : Int} (ha : pv a = true) (hb : pv b = true) (h : hexT a = hexT b) : a = b := by
  rw [← readH_hexT ha, ← readH_hexT hb, h]
/-- What the reference has come to: N is left, 'acc' written. -/
def HexAt (n0 N : Nat) (acc : Bs) : Prop := acc.length ≤ 7 ∧ ∃ f, N < 16 ^ (f + 1) ∧ f + acc.length = 7 ∧ hexF 7 n0 = (if N < 16 then [] else hexF f (N / 16)) ++ acc
theorem HexAt.start {n0 : Nat} (h : n0 ≤ 16777212) : HexAt n0 n0 [hexD (n0 % 16)] := by
  refine ⟨by simp, 6, by have e : (16 : Nat) ^ (6 + 1) = 268435456 := by decide
                         omega, by simp, ?_⟩
  rw [hexF]
  split
  · rename_i h1; rw [Nat.mod_eq_of_lt h1]; rfl
  · rfl
theorem HexAt.step {n0 N : Nat} {acc : Bs} (h : HexAt n0 N acc) (hN : 16 ≤ N) : HexAt n0 (N / 16) (hexD (N / 16 % 16) :: acc) := by
  obtain ⟨hl, f, hf, hfl, he⟩ := h
  cases f with
  | zero => simp at hf; omega
  | succ f =>
    refine ⟨by simp; omega, f, by rw [Nat.pow_succ] at hf; omega, by simp; omega, ?_⟩
    rw [he, if_neg (by omega), hexF]
    split
    · rename_i h1; rw [Nat.mod_eq_of_lt h1]; rfl
    · simp
theorem HexAt.done {n0 N : Nat} {acc : Bs} (h : HexAt n0 N acc) (hN : N < 16) : hexF 7 n0 = acc := by
  obtain ⟨hl, f, hf, hfl, he⟩ := h
  rw [he, if_pos hN]; rfl
/-- What a reader has come to. -/
theorem hexN_snoc {s : Bs} {k : Nat} (hk : k < s.length) {n : Nat} (h : hexN 0 (s.take k) = some n) : hexN 0 (s.take (k + 1)) = (hexV s[k]).map fun d => 16 * n + d := by
  rw [List.take_succ_eq_append_getElem hk, hexN_append, h]
  show hexN n [s[k]] = _
  rw [hexN]
  cases hexV s[k] <;> rfl
theorem readH_char {s : Bs} {k : Nat} (hk : k < s.length) {n : Nat} (h : hexN 0 (s.take k) = some n) (hb : hexV s[k] = none) : readH s = -1 := by
  have h1 : hexN 0 s = none := by
    have e := (List.take_append_drop (k + 1) s).symm
    have h2 := hexN_snoc hk h
    rw [hb] at h2
    rw [e, hexN_append, h2]; rfl
  unfold readH
  rw [h1]; split <;> rfl
theorem readH_ok {s : Bs} (h1 : 1 ≤ s.length) {n : Nat} (h : hexN 0 s = some n) (he : hexT n = s) : readH s = n := by
  have h6 := hexT_len (n : Int)
  rw [he] at h6
  unfold readH
  rw [if_pos ⟨h1, h6⟩, h]
  show (if hexT (n : Int) = s then (n : Int) else -1) = n
  rw [if_pos he]
theorem readH_no {s : Bs} {n : Nat} (h : hexN 0 s = some n) (he : hexT n ≠ s) : readH s = -1 := by
  unfold readH
  rw [h]
  split
  · show (if hexT (n : Int) = s then (n : Int) else -1) = -1
    rw [if_neg he]
  · rfl
theorem readH_nil : readH [] = -1 := rfl
theorem readH_long {s : Bs} (h : 6 < s.length) : readH s = -1 := by unfold readH; rw [if_neg (by omega)]
theorem hexT_ne_long {s : Bs} (h : 6 < s.length) (n : Int) : hexT n ≠ s := by
  intro e; have := hexT_len n; rw [e] at this; omega
theorem hexT_chars (n : Int) : ∀ c ∈ hexT n, (hexV c).isSome = true := by
  by_cases hp : pv n = true
  · have h := hexN_hexT hp
    have aux : ∀ (s : Bs) (a m : Nat), hexN a s = some m → ∀ c ∈ s, (hexV c).isSome = true := by
      intro s
      induction s with
      | nil => intro a m _ c hc; simp at hc
      | cons x r ih =>
        intro a m hm c hc
        rw [hexN] at hm
        cases hx : hexV x with
        | none => rw [hx] at hm; cases hm
        | some d =>
          rw [hx] at hm
          rw [List.mem_cons] at hc
          rcases hc with rfl | hc
          · rw [hx]; rfl
          · exact ih _ _ hm c hc
    exact aux _ _ _ h
  · rw [hexT_bad (by simpa using hp)]; intro c hc; simp at hc
--END
end Go.Proofs.YtaghiefokmapmaaGreatDoor

/- Folders, files and paths, in plain Lean. No program in sight. -/
set_option linter.unusedVariables false
namespace Go.Proofs.YtaghiefokmapmaaGreatDoor
--BEGIN
/-! ### texts in order -/
abbrev lessB (a b : Bs) : Bool := Op.bytesLess a b
theorem lessB_iff : ∀ {a b : Bs}, lessB a b = true ↔ a < b
  | [], [] => by simp [lessB, Op.bytesLess]
  | _ :: _, [] => by simp [lessB, Op.bytesLess]
  | [], _ :: _ => by simp [lessB, Op.bytesLess]
  | x :: a, y :: b => by
    have ih := lessB_iff (a := a) (b := b)
    unfold lessB at ih ⊢
    rw [Op.bytesLess, List.cons_lt_cons_iff, Bool.or_eq_true, Bool.and_eq_true, decide_eq_true_eq, beq_iff_eq, ih]
theorem lessB_irrefl (a : Bs) : lessB a a = false := by
  cases h : lessB a a
  · rfl
  · exact absurd (lessB_iff.1 h) (List.lt_irrefl a)
theorem lessB_trans {a b c : Bs} (h1 : lessB a b = true) (h2 : lessB b c = true) : lessB a c = true := lessB_iff.2 (List.lt_trans (lessB_iff.1 h1) (lessB_iff.1 h2))
theorem lessB_asymm {a b : Bs} (h : lessB a b = true) : lessB b a = false := by
  cases h2 : lessB b a
  · rfl
  · have := lessB_trans h h2; rw [lessB_irrefl] at this; cases this
theorem lessB_tri {a b : Bs} (h1 : lessB a b = false) (h2 : lessB b a = false) : a = b := by
  have e1 : ¬ a < b := fun h => by rw [lessB_iff.2 h] at h1; cases h1
  have e2 : ¬ b < a := fun h => by rw [lessB_iff.2 h] at h2; cases h2
  exact List.le_antisymm (List.not_lt.1 e2) (List.not_lt.1 e1)
theorem tx_mk (b : Bs) : tx (mk b) = b := rfl
theorem mk_tx (s : ByteArray) : mk (tx s) = s := by cases s; rfl
theorem tx_inj {a b : ByteArray} (h : tx a = tx b) : a = b := by rw [← mk_tx a, ← mk_tx b, h]

/-! ### entries -/
def en0 : En := (⟨#[]⟩, 0)
def entOk (e : En) : Bool := wordV (tx e.1) && pv e.2
def entAt (l : List En) (k : Nat) : Bool := entOk (l.getD k en0) && (k == 0 || lessB (tx (l.getD (k - 1) en0).1) (tx (l.getD k en0).1))
def entsV (l : List En) : Bool := decide (l.length ≤ 3) && (List.range l.length).all (entAt l)
def SortE (l : List En) : Prop := l.Pairwise fun a b => lessB (tx a.1) (tx b.1) = true
theorem getD_en {l : List En} {k : Nat} (h : k < l.length) : l.getD k en0 = l[k] := by rw [List.getD_eq_getElem?_getD, List.getElem?_eq_getElem h]; rfl
theorem entsV_iff {l : List En} : entsV l = true ↔ l.length ≤ 3 ∧ (∀ p ∈ l, entOk p = true) ∧ SortE l := by
  unfold entsV
  rw [Bool.and_eq_true, decide_eq_true_eq, List.all_eq_true]
  constructor
  · rintro ⟨h1, h2⟩
    have hk : ∀ k (h : k < l.length), entOk l[k] = true ∧ (k = 0 ∨ lessB (tx (l.getD (k - 1) en0).1) (tx l[k].1) = true) := by
      intro k h
      have := h2 k (List.mem_range.2 h)
      unfold entAt at this
      rw [Bool.and_eq_true, Bool.or_eq_true, beq_iff_eq, getD_en h] at this
      exact this
    refine ⟨h1, fun p hp => ?_, ?_⟩
    · obtain ⟨k, h, rfl⟩ := List.getElem_of_mem hp; exact (hk k h).1
    · refine List.pairwise_iff_getElem.2 ?_
      have aux : ∀ j (hj : j < l.length) i (hi : i < l.length), i < j → lessB (tx l[i].1) (tx l[j].1) = true := by
        intro j
        induction j with
        | zero => intro _ i _ h; omega
        | succ j ih =>
          intro hj i hi hij
          have h3 := (hk (j + 1) hj).2
          have h4 : l.getD (j + 1 - 1) en0 = l[j] := getD_en (k := j) (by omega)
          rw [h4] at h3
          rcases h3 with h3 | h3
          · omega
          · by_cases e : i = j
            · subst e; exact h3
            · exact lessB_trans (ih (by omega) i hi (by omega)) h3
      exact fun i j hi hj hij => aux j hj i hi hij
  · rintro ⟨h1, h2, h3⟩
    refine ⟨h1, fun k hk => ?_⟩
    rw [List.mem_range] at hk
    unfold entAt
    rw [Bool.and_eq_true, Bool.or_eq_true, beq_iff_eq, getD_en hk]
    refine ⟨h2 _ (by simp), ?_⟩
    by_cases e : k = 0
    · exact .inl e
    · right
      rw [getD_en (k := k - 1) (by omega)]
      exact List.pairwise_iff_getElem.1 h3 (k - 1) k (by omega) hk (by omega)
theorem entsV_len {l : List En} (h : entsV l = true) : l.length ≤ 3 := (entsV_iff.1 h).1
theorem entsV_sorted {l : List En} (h : entsV l = true) : SortE l := (entsV_iff.1 h).2.2
theorem entsV_ok {l : List En} (h : entsV l = true) {p : En} (hp : p ∈ l) : entOk p = true := (entsV_iff.1 h).2.1 p hp
theorem entOk_iff {p : En} : entOk p = true ↔ wordV (tx p.1) = true ∧ pv p.2 = true := by unfold entOk; rw [Bool.and_eq_true]
theorem entsV_bad {l : List En} {k : Nat} (h : k < l.length) (hb : entAt l k = false) : entsV l = false := by
  cases hv : entsV l
  · rfl
  · unfold entsV at hv
    rw [Bool.and_eq_true, List.all_eq_true] at hv
    rw [hv.2 k (List.mem_range.2 h)] at hb; cases hb
theorem entsV_long {l : List En} (h : ¬ l.length ≤ 3) : entsV l = false := by unfold entsV; rw [decide_eq_false h]; rfl
def EntUpto (l : List En) (k : Nat) : Prop := ∀ j, j < k → entAt l j = true
theorem EntUpto.zero (l : List En) : EntUpto l 0 := fun j h => by omega
theorem EntUpto.succ {l : List En} {k : Nat} (h : EntUpto l k) (hk : entAt l k = true) : EntUpto l (k + 1) := fun j hj => by
  by_cases e : j = k
  · subst e; exact hk
  · exact h j (by omega)
theorem EntUpto.done {l : List En} {k : Nat} (h : EntUpto l k) (hk : ¬ k < l.length) (hl : l.length ≤ 3) : entsV l = true := by
  unfold entsV; rw [decide_eq_true hl, Bool.true_and, List.all_eq_true]
  intro j hj; rw [List.mem_range] at hj; exact h j (by omega)
theorem entsV_nil : entsV [] = true := rfl
theorem entsV_sub {l m : List En} (h : entsV l = true) (hs : m.Sublist l) : entsV m = true := by
  obtain ⟨h1, h2, h3⟩ := entsV_iff.1 h
  exact entsV_iff.2 ⟨Nat.le_trans hs.length_le h1, fun p hp => h2 p (hs.subset hp), h3.sublist hs⟩

/-! ### where a name stands -/
def posE (l : List En) (n : Bs) : Nat := (l.takeWhile fun x => lessB (tx x.1) n).length
theorem posE_le (l : List En) (n : Bs) : posE l n ≤ l.length := (List.takeWhile_sublist _).length_le
theorem posE_of : ∀ (l : List En) (n : Bs) (i : Nat), i ≤ l.length → (∀ t (h : t < l.length), t < i → lessB (tx l[t].1) n = true) → (∀ h : i < l.length, lessB (tx l[i].1) n = false) → posE l n = i
  | [], n, i, hi, _, _ => by simp at hi; subst hi; rfl
  | x :: r, n, 0, _, _, h2 => by
    have := h2 (by simp)
    simp at this
    unfold posE; rw [List.takeWhile_cons]
    rw [if_neg (by simp [this])]; rfl
  | x :: r, n, i + 1, hi, h1, h2 => by
    have h0 := h1 0 (by simp) (by omega)
    simp at h0
    have ih := posE_of r n i (by simpa using hi) (fun t h ht => h1 (t + 1) (Nat.succ_lt_succ h) (Nat.succ_lt_succ ht)) (fun h => h2 (Nat.succ_lt_succ h))
    unfold posE at ih ⊢
    rw [List.takeWhile_cons, if_pos h0, List.length_cons, ih]
theorem posE_lt : ∀ (l : List En) (n : Bs) (t : Nat) (h : t < l.length), t < posE l n → lessB (tx l[t].1) n = true
  | x :: r, n, t, h, ht => by
    unfold posE at ht
    rw [List.takeWhile_cons] at ht
    split at ht
    · rename_i hx
      cases t with
      | zero => simpa using hx
      | succ t => simpa using posE_lt r n t (by simpa using h) (by unfold posE; simpa using ht)
    · simp at ht
theorem posE_ge : ∀ (l : List En) (n : Bs) (h : posE l n < l.length), lessB (tx l[posE l n].1) n = false
  | [], n, h => by simp at h
  | x :: r, n, h => by
    by_cases hx : lessB (tx x.1) n = true
    · have e : posE (x :: r) n = posE r n + 1 := by unfold posE; rw [List.takeWhile_cons, if_pos hx]; rfl
      have h' : posE r n < r.length := by rw [e] at h; simpa using h
      have := posE_ge r n h'
      simp only [e, List.getElem_cons_succ]; exact this
    · have e : posE (x :: r) n = 0 := by unfold posE; rw [List.takeWhile_cons, if_neg hx]; rfl
      simp only [e, List.getElem_cons_zero]; simpa using hx
def hereE (l : List En) (n : Bs) : Bool := decide (posE l n < l.length) && (tx (l.getD (posE l n) en0).1 == n)
def getE (l : List En) (n : Bs) : Option Int := (l.find? fun x => tx x.1 == n).map (·.2)
theorem getE_some {l : List En} {n : Bs} {p : Int} (h : getE l n = some p) : (mk n, p) ∈ l := by
  unfold getE at h
  obtain ⟨x, hx, rfl⟩ := Option.map_eq_some_iff.1 h
  have h1 := List.mem_of_find?_eq_some hx
  have h2 := List.find?_some hx
  simp at h2
  have e : x = (mk n, x.2) := Prod.ext (tx_inj (by rw [h2]; rfl)) rfl
  rw [← e]; exact h1
theorem getE_none_iff {l : List En} {n : Bs} : getE l n = none ↔ ∀ x ∈ l, tx x.1 ≠ n := by
  unfold getE
  rw [Option.map_eq_none_iff, List.find?_eq_none]
  simp
theorem sortE_inj {l : List En} (h : SortE l) {a b : En} (ha : a ∈ l) (hb : b ∈ l) (e : tx a.1 = tx b.1) : a = b := by
  obtain ⟨i, hi, rfl⟩ := List.getElem_of_mem ha
  obtain ⟨j, hj, rfl⟩ := List.getElem_of_mem hb
  have hp := List.pairwise_iff_getElem.1 h
  by_cases h1 : i < j
  · have := hp i j hi hj h1; rw [e, lessB_irrefl] at this; cases this
  · by_cases h2 : j < i
    · have := hp j i hj hi h2; rw [e, lessB_irrefl] at this; cases this
    · have : i = j := by omega
      subst this; rfl
theorem getE_mem {l : List En} (hs : SortE l) {n : Bs} {p : Int} (h : (mk n, p) ∈ l) : getE l n = some p := by
  cases hg : getE l n with
  | none => exact absurd rfl (getE_none_iff.1 hg _ h)
  | some u =>
    have := sortE_inj hs (getE_some hg) h rfl
    injection this with _ e; rw [e]
theorem getE_here {l : List En} (hs : SortE l) {n : Bs} : getE l n = if hereE l n then some (l.getD (posE l n) en0).2 else none := by
  unfold hereE
  by_cases hlt : posE l n < l.length
  · rw [decide_eq_true hlt, Bool.true_and, getD_en hlt]
    by_cases e : tx l[posE l n].1 = n
    · rw [beq_iff_eq.2 e, if_pos rfl]
      exact getE_mem hs (by
        have e2 : (mk n, l[posE l n].2) = l[posE l n] := Prod.ext (tx_inj (by rw [e]; rfl)) rfl
        rw [e2]; exact List.getElem_mem hlt)
    · rw [beq_eq_false_iff_ne.2 e, if_neg (by simp)]
      refine getE_none_iff.2 fun x hx hxe => ?_
      obtain ⟨t, ht, rfl⟩ := List.getElem_of_mem hx
      by_cases h1 : t < posE l n
      · have := posE_lt l n t ht h1; rw [hxe, lessB_irrefl] at this; cases this
      · by_cases e2 : posE l n = t
        · subst e2; exact e hxe
        · have h2 := posE_ge l n hlt
          have h3 := List.pairwise_iff_getElem.1 hs (posE l n) t hlt ht (by omega)
          rw [hxe] at h3; rw [h3] at h2; cases h2
  · rw [decide_eq_false hlt, Bool.false_and, if_neg (by simp)]
    refine getE_none_iff.2 fun x hx hxe => ?_
    obtain ⟨t, ht, rfl⟩ := List.getElem_of_mem hx
    have := posE_lt l n t ht (by omega)
    rw [hxe, lessB_irrefl] at this; cases this
theorem posE_sorted {l : List En} (hs : SortE l) {n : Bs} {t : Nat} (h : t < l.length) (ht : posE l n ≤ t) : lessB (tx l[t].1) n = false := by
  by_cases e : posE l n = t
  · subst e; exact posE_ge l n h
  · cases h1 : lessB (tx l[t].1) n
    · rfl
    · have h2 := posE_ge l n (by omega)
      have h3 := List.pairwise_iff_getElem.1 hs (posE l n) t (by omega) h (by omega)
      rw [lessB_trans h3 h1] at h2; cases h2

/-! ### one entry more, one less -/
def insE (l : List En) (e : En) : List En := l.take (posE l (tx e.1)) ++ e :: l.drop (posE l (tx e.1) + if hereE l (tx e.1) then 1 else 0)
def putE (l : List En) (e : En) : List En × Bool := if entsV l then (if entsV (insE l e) then (insE l e, true) else (l, false)) else ([], false)
def dropE (l : List En) (n : Bs) : List En × Bool := if entsV l then (if hereE l n then (l.take (posE l n) ++ l.drop (posE l n + 1), true) else (l, false)) else ([], false)
theorem hereE_iff {l : List En} {n : Bs} : hereE l n = true ↔ ∃ h : posE l n < l.length, tx l[posE l n].1 = n := by
  unfold hereE
  rw [Bool.and_eq_true, decide_eq_true_eq, beq_iff_eq]
  constructor
  · rintro ⟨h1, h2⟩; rw [getD_en h1] at h2; exact ⟨h1, h2⟩
  · rintro ⟨h1, h2⟩; rw [getD_en h1]; exact ⟨h1, h2⟩
theorem hereE_get {l : List En} (hs : SortE l) {n : Bs} : hereE l n = (getE l n).isSome := by
  rw [getE_here hs]; cases hereE l n <;> rfl
theorem mem_insE {l : List En} (hs : SortE l) (e x : En) : x ∈ insE l e ↔ x = e ∨ (x ∈ l ∧ tx x.1 ≠ tx e.1) := by
  unfold insE
  rw [List.mem_append, List.mem_cons]
  have hlo : ∀ a ∈ l.take (posE l (tx e.1)), tx a.1 ≠ tx e.1 := by
    intro a ha he
    obtain ⟨t, ht, rfl⟩ := List.getElem_of_mem ha
    rw [List.length_take] at ht
    rw [List.getElem_take] at he
    have := posE_lt l (tx e.1) t (by omega) (by omega)
    rw [he, lessB_irrefl] at this; cases this
  cases hh : hereE l (tx e.1)
  · simp only [Bool.false_eq_true, if_false, Nat.add_zero]
    rw [hereE_get hs, Option.isSome_eq_false_iff, Option.isNone_iff_eq_none] at hh
    have hn := getE_none_iff.1 hh
    constructor
    · rintro (h | h | h)
      · exact .inr ⟨List.mem_of_mem_take h, hlo _ h⟩
      · exact .inl h
      · exact .inr ⟨List.mem_of_mem_drop h, hn _ (List.mem_of_mem_drop h)⟩
    · rintro (h | ⟨h, _⟩)
      · exact .inr (.inl h)
      · rw [← List.take_append_drop (posE l (tx e.1)) l, List.mem_append] at h
        exact h.elim .inl fun h => .inr (.inr h)
  · simp only [if_true]
    obtain ⟨hp, he⟩ := hereE_iff.1 hh
    have hdr : l.drop (posE l (tx e.1)) = l[posE l (tx e.1)] :: l.drop (posE l (tx e.1) + 1) := List.drop_eq_getElem_cons hp
    constructor
    · rintro (h | h | h)
      · exact .inr ⟨List.mem_of_mem_take h, hlo _ h⟩
      · exact .inl h
      · refine .inr ⟨List.mem_of_mem_drop h, fun hx => ?_⟩
        obtain ⟨t, ht, rfl⟩ := List.getElem_of_mem h
        rw [List.length_drop] at ht
        rw [List.getElem_drop] at hx
        have h3 := List.pairwise_iff_getElem.1 hs (posE l (tx e.1)) (posE l (tx e.1) + 1 + t) hp (by omega) (by omega)
        rw [hx, he, lessB_irrefl] at h3; cases h3
    · rintro (h | ⟨h, hne⟩)
      · exact .inr (.inl h)
      · rw [← List.take_append_drop (posE l (tx e.1)) l, List.mem_append, hdr, List.mem_cons] at h
        rcases h with h | h | h
        · exact .inl h
        · rw [h] at hne; exact absurd he hne
        · exact .inr (.inr h)
theorem insE_sorted {l : List En} (hs : SortE l) (e : En) : SortE (insE l e) := by
  unfold insE SortE
  rw [List.pairwise_append, List.pairwise_cons]
  have hlo : ∀ a ∈ l.take (posE l (tx e.1)), lessB (tx a.1) (tx e.1) = true := by
    intro a ha
    obtain ⟨t, ht, rfl⟩ := List.getElem_of_mem ha
    rw [List.length_take] at ht
    rw [List.getElem_take]
    exact posE_lt l (tx e.1) t (by omega) (by omega)
  have hhi : ∀ b ∈ l.drop (posE l (tx e.1) + if hereE l (tx e.1) then 1 else 0), lessB (tx e.1) (tx b.1) = true := by
    intro b hb
    have hm := List.mem_of_mem_drop hb
    obtain ⟨t, ht, rfl⟩ := List.getElem_of_mem hb
    rw [List.length_drop] at ht
    rw [List.getElem_drop] at hm ⊢
    generalize hq : posE l (tx e.1) + (if hereE l (tx e.1) then 1 else 0) = q at *
    have hq2 : posE l (tx e.1) ≤ q := by rw [← hq]; omega
    have h1 := posE_sorted hs (n := tx e.1) (t := q + t) (by omega) (by omega)
    cases h2 : lessB (tx e.1) (tx l[q + t].1)
    · have h3 := lessB_tri h1 h2
      cases hh : hereE l (tx e.1)
      · rw [hereE_get hs, Option.isSome_eq_false_iff, Option.isNone_iff_eq_none] at hh
        exact absurd h3 (getE_none_iff.1 hh _ hm)
      · rw [hh, if_pos rfl] at hq
        obtain ⟨hp, he⟩ := hereE_iff.1 hh
        have h4 := List.pairwise_iff_getElem.1 hs (posE l (tx e.1)) (q + t) hp (by omega) (by omega)
        rw [he, h3, lessB_irrefl] at h4; cases h4
    · rfl
  refine ⟨hs.sublist (List.take_sublist _ _), ⟨hhi, hs.sublist (List.drop_sublist _ _)⟩, fun a ha b hb => ?_⟩
  have h1 := hlo a ha
  rcases List.mem_cons.1 hb with rfl | hb
  · exact h1
  · exact lessB_trans h1 (hhi b hb)
theorem insE_len (l : List En) (e : En) : (insE l e).length ≤ l.length + 1 := by
  have := posE_le l (tx e.1)
  unfold insE; simp; omega
theorem dropE_filter {l : List En} (h : entsV l = true) (n : Bs) : (dropE l n).1 = l.filter fun x => !(tx x.1 == n) := by
  have hs := entsV_sorted h
  unfold dropE
  rw [h, if_pos rfl]
  cases hh : hereE l n
  · rw [hereE_get hs, Option.isSome_eq_false_iff, Option.isNone_iff_eq_none] at hh
    have hn := getE_none_iff.1 hh
    rw [if_neg (by simp)]
    refine (List.filter_eq_self.2 fun x hx => ?_).symm
    simpa using hn x hx
  · rw [if_pos rfl]
    obtain ⟨hp, he⟩ := hereE_iff.1 hh
    have hdr : l.drop (posE l n) = l[posE l n] :: l.drop (posE l n + 1) := List.drop_eq_getElem_cons hp
    conv => rhs; rw [← List.take_append_drop (posE l n) l, hdr, List.filter_append, List.filter_cons]
    rw [if_neg (by simp [he])]
    show l.take (posE l n) ++ l.drop (posE l n + 1) = _
    congr 1
    · refine (List.filter_eq_self.2 fun x hx => ?_).symm
      obtain ⟨t, ht, rfl⟩ := List.getElem_of_mem hx
      rw [List.length_take] at ht
      rw [List.getElem_take]
      have := posE_lt l n t (by omega) (by omega)
      simp only [Bool.not_eq_true', beq_eq_false_iff_ne]
      intro e; rw [e, lessB_irrefl] at this; cases this
    · refine (List.filter_eq_self.2 fun x hx => ?_).symm
      obtain ⟨t, ht, rfl⟩ := List.getElem_of_mem hx
      rw [List.length_drop] at ht
      rw [List.getElem_drop]
      have h4 := List.pairwise_iff_getElem.1 hs (posE l n) (posE l n + 1 + t) hp (by omega) (by omega)
      simp only [Bool.not_eq_true', beq_eq_false_iff_ne]
      intro e; rw [he, e, lessB_irrefl] at h4; cases h4
theorem dropE_ok {l : List En} (h : entsV l = true) (n : Bs) : (dropE l n).2 = hereE l n := by
  unfold dropE; rw [h, if_pos rfl]; cases hereE l n <;> rfl
theorem dropE_valid {l : List En} (h : entsV l = true) (n : Bs) : entsV (dropE l n).1 = true := by
  rw [dropE_filter h]; exact entsV_sub h List.filter_sublist
theorem dropE_bad {l : List En} (h : entsV l = false) (n : Bs) : dropE l n = ([], false) := by unfold dropE; rw [h]; rfl
theorem dropE_lt {l : List En} (h : entsV l = true) (n : Bs) : decide ((dropE l n).1.length < l.length) = hereE l n := by
  unfold dropE
  rw [h, if_pos rfl]
  cases hh : hereE l n
  · simp
  · obtain ⟨hp, _⟩ := hereE_iff.1 hh
    simp; omega
theorem putE_here {l : List En} (h : entsV l = true) {e : En} (he : entOk e = true) (hh : hereE l (tx e.1) = true) : putE l e = (insE l e, true) := by
  unfold putE
  rw [h, if_pos rfl, if_pos]
  refine entsV_iff.2 ⟨?_, fun p hp => ?_, insE_sorted (entsV_sorted h) e⟩
  · obtain ⟨hp, _⟩ := hereE_iff.1 hh
    have := entsV_len h
    unfold insE; rw [hh]; simp; omega
  · rcases (mem_insE (entsV_sorted h) e p).1 hp with rfl | ⟨hp, _⟩
    · exact he
    · exact entsV_ok h hp
theorem putE_bad {l : List En} (h : entsV l = false) (e : En) : putE l e = ([], false) := by unfold putE; rw [h]; rfl
theorem putE_ok {l : List En} {e : En} (h : (putE l e).2 = true) : entsV l = true ∧ entsV (putE l e).1 = true ∧ (putE l e).1 = insE l e := by
  unfold putE at h ⊢
  cases h1 : entsV l
  · rw [h1] at h; cases h
  · rw [h1, if_pos rfl] at h
    rw [if_pos rfl]
    cases h2 : entsV (insE l e)
    · rw [h2] at h; cases h
    · exact ⟨rfl, h2, rfl⟩
theorem putE_len (l : List En) (e : En) : (putE l e).1.length ≤ 3 := by
  unfold putE
  cases h1 : entsV l
  · simp
  · rw [if_pos rfl]
    split
    · rename_i h; exact entsV_len h
    · exact entsV_len h1
--END
end Go.Proofs.YtaghiefokmapmaaGreatDoor

/- Folders' texts, files, paths, walks, in plain Lean. No program in sight. -/
set_option linter.unusedVariables false
namespace Go.Proofs.YtaghiefokmapmaaGreatDoor
--BEGIN
/-! ### a folder's text -/
def entT (e : En) : Bs := tx e.1 ++ 61 :: (hexT e.2 ++ [59])
def foldB (l : List En) : Bs := 100 :: l.flatMap entT
def foldT (l : List En) : Bs := if entsV l then foldB l else []
def headN (s : Bs) : Bs := s.takeWhile fun c => c != 61
def tailN (s : Bs) : Bs := s.drop ((headN s).length + 1)
def headD' (s : Bs) : Bs := s.takeWhile fun c => c != 59
def tailD (s : Bs) : Bs := s.drop ((headD' s).length + 1)
def parE : Nat → Bs → Option (List En)
  | 0, s => if s = [] then some [] else none
  | n + 1, s => if s = [] then some [] else (parE n (tailD (tailN s))).map fun l => (mk (headN s), readH (headD' (tailN s))) :: l
def readF (s : Bs) : Option (List En) := match parE 3 (s.drop 1) with | some l => if entsV l && (foldB l == s) then some l else none | none => none
theorem word_chars {s : Bs} (h : wordV s = true) : ∀ c ∈ s, smallC c = true ∨ digitC c = true := by
  unfold wordV at h
  rw [Bool.and_eq_true, List.all_eq_true] at h
  intro c hc
  have := h.2 c hc
  rwa [Bool.or_eq_true] at this
theorem word_range {c : UInt8} (h : smallC c = true ∨ digitC c = true) : (48 ≤ c.toNat ∧ c.toNat ≤ 57) ∨ (97 ≤ c.toNat ∧ c.toNat ≤ 122) := by
  unfold smallC digitC inI at h
  rw [decide_eq_true_eq, decide_eq_true_eq] at h
  omega
theorem hex_range {c : UInt8} (h : (hexV c).isSome = true) : (48 ≤ c.toNat ∧ c.toNat ≤ 57) ∨ (97 ≤ c.toNat ∧ c.toNat ≤ 122) := by
  unfold hexV at h
  split at h
  · rename_i h1; exact word_range (.inr h1)
  · split at h
    · rename_i h1; unfold inI at h1; rw [decide_eq_true_eq] at h1; omega
    · cases h
theorem byte_ne {c : UInt8} {n : Nat} (hn : n < 256) (h : c.toNat ≠ n) : c ≠ UInt8.ofNat n := by
  intro e; apply h; rw [e, UInt8.toNat_ofNat']; omega
theorem range_ne {c : UInt8} (h : (48 ≤ c.toNat ∧ c.toNat ≤ 57) ∨ (97 ≤ c.toNat ∧ c.toNat ≤ 122)) : c ≠ 61 ∧ c ≠ 59 ∧ c ≠ 47 ∧ c ≠ 32 ∧ okC c = true := by
  refine ⟨byte_ne (n := 61) (by omega) (by omega), byte_ne (n := 59) (by omega) (by omega), byte_ne (n := 47) (by omega) (by omega), byte_ne (n := 32) (by omega) (by omega), ?_⟩
  unfold okC; rw [decide_eq_true_eq]; omega
theorem takeWhile_stop {p : UInt8 → Bool} {a : Bs} {c : UInt8} {r : Bs} (ha : ∀ x ∈ a, p x = true) (hc : p c = false) : (a ++ c :: r).takeWhile p = a := by
  rw [List.takeWhile_append_of_pos ha, List.takeWhile_cons, hc]; simp
theorem drop_past (a : Bs) (c : UInt8) (r : Bs) : (a ++ c :: r).drop (a.length + 1) = r := by
  rw [List.drop_append]; simp
theorem entT_word {e : En} (h : entOk e = true) : ∀ c ∈ tx e.1, (c != 61) = true := fun c hc => by
  have := (range_ne (word_range (word_chars (entOk_iff.1 h).1 c hc))).1; simpa using this
theorem entT_hex (n : Int) : ∀ c ∈ hexT n, (c != 59) = true := fun c hc => by
  have := (range_ne (hex_range (hexT_chars n c hc))).2.1; simpa using this
theorem headN_ent {e : En} (h : entOk e = true) (r : Bs) : headN (entT e ++ r) = tx e.1 := by
  unfold headN entT
  rw [List.append_assoc, List.cons_append]
  exact takeWhile_stop (entT_word h) (by decide)
theorem tailN_ent {e : En} (h : entOk e = true) (r : Bs) : tailN (entT e ++ r) = hexT e.2 ++ 59 :: r := by
  unfold tailN
  rw [headN_ent h]
  unfold entT
  rw [List.append_assoc, List.cons_append, drop_past, List.append_assoc]; rfl
theorem headD_ent (n : Int) (r : Bs) : headD' (hexT n ++ 59 :: r) = hexT n := takeWhile_stop (entT_hex n) (by decide)
theorem tailD_ent (n : Int) (r : Bs) : tailD (hexT n ++ 59 :: r) = r := by unfold tailD; rw [headD_ent, drop_past]
theorem entT_ne (e : En) (r : Bs) : entT e ++ r ≠ [] := by unfold entT; simp
theorem parE_ok : ∀ (n : Nat) (l : List En), l.length ≤ n → (∀ e ∈ l, entOk e = true) → parE n (l.flatMap entT) = some l
  | 0, l, hn, _ => by
    have : l = [] := List.eq_nil_of_length_eq_zero (by omega)
    subst this; rfl
  | n + 1, [], _, _ => rfl
  | n + 1, e :: r, hn, h => by
    have he := h e (by simp)
    rw [List.flatMap_cons, parE, if_neg (entT_ne _ _), headN_ent he, tailN_ent he, headD_ent, tailD_ent, parE_ok n r (by simpa using hn) (fun x hx => h x (by simp [hx])), readH_hexT (entOk_iff.1 he).2]
    rw [mk_tx]; rfl
theorem readF_iff {s : Bs} {l : List En} : readF s = some l ↔ entsV l = true ∧ foldB l = s := by
  unfold readF
  constructor
  · intro h
    split at h
    · split at h
      · rename_i hc
        injection h with h; subst h
        rw [Bool.and_eq_true, beq_iff_eq] at hc; exact hc
      · cases h
    · cases h
  · rintro ⟨h1, rfl⟩
    have e : (foldB l).drop 1 = l.flatMap entT := rfl
    rw [e, parE_ok 3 l (entsV_len h1) (fun x hx => entsV_ok h1 hx)]
    show (if entsV l && (foldB l == foldB l) then some l else none) = some l
    rw [h1]; simp
theorem readF_none {s : Bs} (h : ∀ l, entsV l = true → foldB l ≠ s) : readF s = none := by
  cases hr : readF s with
  | none => rfl
  | some l => obtain ⟨h1, h2⟩ := readF_iff.1 hr; exact absurd h2 (h l h1)
theorem foldB_inj {l m : List En} (h1 : entsV l = true) (h2 : entsV m = true) (h : foldB l = foldB m) : l = m := by
  have a := readF_iff.2 ⟨h1, h⟩
  have b := readF_iff.2 ⟨h2, rfl⟩
  rw [a] at b; injection b
theorem readF_foldT {l : List En} (h : entsV l = true) : readF (foldT l) = some l := by unfold foldT; rw [h, if_pos rfl]; exact readF_iff.2 ⟨h, rfl⟩
theorem entT_len (e : En) (h : entOk e = true) : (entT e).length ≤ 16 := by
  have h1 := hexT_len e.2
  have h2 : (tx e.1).length ≤ 8 := by
    have := (entOk_iff.1 h).1; unfold wordV at this; rw [Bool.and_eq_true, Bool.and_eq_true, decide_eq_true_eq] at this; exact this.1.1.2
  unfold entT
  rw [List.length_append, List.length_cons, List.length_append, List.length_singleton]; omega
theorem flat_ent_len : ∀ l : List En, (∀ e ∈ l, entOk e = true) → (l.flatMap entT).length ≤ 16 * l.length
  | [], _ => by simp
  | e :: r, h => by
    have h1 := entT_len e (h e (by simp))
    have h2 := flat_ent_len r fun x hx => h x (by simp [hx])
    rw [List.flatMap_cons, List.length_append, List.length_cons]; omega
theorem foldB_len {l : List En} (h : entsV l = true) : (foldB l).length ≤ 49 := by
  have h1 := flat_ent_len l fun e he => entsV_ok h he
  have h2 := entsV_len h
  unfold foldB; rw [List.length_cons]; omega
theorem foldT_len (l : List En) : (foldT l).length ≤ 49 := by
  unfold foldT; split
  · rename_i h; exact foldB_len h
  · simp
theorem entT_ok {e : En} (h : entOk e = true) : ∀ c ∈ entT e, okC c = true := by
  intro c hc
  unfold entT at hc
  rw [List.mem_append, List.mem_cons, List.mem_append, List.mem_singleton] at hc
  rcases hc with hc | rfl | hc | rfl
  · exact (range_ne (word_range (word_chars (entOk_iff.1 h).1 c hc))).2.2.2.2
  · decide
  · exact (range_ne (hex_range (hexT_chars _ c hc))).2.2.2.2
  · decide
theorem foldB_text {l : List En} (h : entsV l = true) : textV (foldB l) = true := by
  unfold textV
  rw [Bool.and_eq_true, decide_eq_true_eq, List.all_eq_true]
  refine ⟨by have := foldB_len h; omega, fun c hc => ?_⟩
  unfold foldB at hc
  rcases List.mem_cons.1 hc with rfl | hc
  · decide
  · obtain ⟨e, he, hc⟩ := List.mem_flatMap.1 hc
    exact entT_ok (entsV_ok h he) c hc

/-! ### files -/
def contV (s : Bs) : Bool := textV s && decide (s.length ≤ 40)
def fileT (s : Bs) : Bs := if contV s then 102 :: s else []
def readFi (s : Bs) : Option Bs := match s with | [] => none | c :: r => if c == 102 && contV r then some r else none
def textK (s : Bs) : Int := if (readFi s).isSome then 1 else if (readF s).isSome then 2 else 0
theorem readFi_iff {s r : Bs} : readFi s = some r ↔ s = 102 :: r ∧ contV r = true := by
  unfold readFi
  cases s with
  | nil => simp
  | cons c t =>
    simp only
    constructor
    · intro h
      split at h
      · rename_i hc
        injection h with h; subst h
        rw [Bool.and_eq_true, beq_iff_eq] at hc
        exact ⟨by rw [hc.1], hc.2⟩
      · cases h
    · rintro ⟨h1, h2⟩
      injection h1 with h3 h4; subst h3 h4
      rw [h2]; simp
theorem readF_file {s : Bs} (h : (readFi s).isSome = true) : readF s = none := by
  obtain ⟨r, hr⟩ := Option.isSome_iff_exists.1 h
  obtain ⟨rfl, _⟩ := readFi_iff.1 hr
  refine readF_none fun l _ e => ?_
  unfold foldB at e; injection e with e _; exact absurd e (by decide)
theorem textK_two {s : Bs} : textK s = 2 ↔ (readF s).isSome = true := by
  unfold textK
  cases h : (readFi s).isSome
  · cases h2 : (readF s).isSome <;> simp
  · rw [readF_file h]; simp
theorem textK_one {s : Bs} : textK s = 1 ↔ (readFi s).isSome = true := by
  unfold textK
  cases h : (readFi s).isSome
  · cases h2 : (readF s).isSome <;> simp
  · simp
theorem fileT_ok {s : Bs} (h : contV s = true) : fileT s = 102 :: s := by unfold fileT; rw [h, if_pos rfl]
theorem fileT_text {s : Bs} (h : contV s = true) : textV (fileT s) = true := by
  rw [fileT_ok h]
  unfold contV textV at h
  rw [Bool.and_eq_true, Bool.and_eq_true, decide_eq_true_eq, decide_eq_true_eq] at h
  unfold textV
  rw [Bool.and_eq_true, decide_eq_true_eq, List.all_cons, Bool.and_eq_true]
  exact ⟨by simp; omega, by decide, h.1.2⟩
theorem readFi_fileT {s : Bs} (h : contV s = true) : readFi (fileT s) = some s := readFi_iff.2 ⟨fileT_ok h, h⟩

/-! ### paths -/
def joinB (ps : List Bs) : Bs := ps.flatMap fun p => 47 :: p
def partsV (ps : List Bs) : Bool := decide (ps.length ≤ 3) && ps.all wordV
def joinP (ps : List Bs) : Bs := if partsV ps then (if ps = [] then [47] else joinB ps) else []
def splitS (c : UInt8) : Bs → List Bs
  | [] => [[]]
  | x :: r => if x = c then [] :: splitS c r else match splitS c r with | p :: ps => (x :: p) :: ps | [] => [[x]]
theorem splitS_ne (c : UInt8) (s : Bs) : splitS c s ≠ [] := by
  cases s with
  | nil => simp [splitS]
  | cons x r =>
    rw [splitS]; split
    · simp
    · split <;> simp
theorem joinB_split : ∀ s : Bs, joinB (splitS 47 s) = 47 :: s
  | [] => rfl
  | x :: r => by
    rw [splitS]
    have ih := joinB_split r
    split
    · rename_i h
      subst h
      unfold joinB at ih ⊢
      rw [List.flatMap_cons, ih]; rfl
    · split
      · rename_i p ps he
        rw [he] at ih
        unfold joinB at ih ⊢
        rw [List.flatMap_cons] at ih ⊢
        injection ih with _ ih
        show 47 :: x :: (p.append _) = _
        rw [ih]
      · rename_i he; exact absurd he (splitS_ne 47 r)
def pathP (s : Bs) : Option (List Bs) := if s = [47] then some [] else if s.headD 0 = 47 then (if partsV (splitS 47 s.tail) then some (splitS 47 s.tail) else none) else none
theorem pathP_join {s : Bs} {ps : List Bs} (h : pathP s = some ps) : partsV ps = true ∧ joinP ps = s := by
  unfold pathP at h
  split at h
  · rename_i e; injection h with h; subst h e; exact ⟨rfl, rfl⟩
  · split at h
    · rename_i hd
      split at h
      · rename_i hv
        injection h with h; subst h
        refine ⟨hv, ?_⟩
        unfold joinP
        rw [hv, if_pos rfl, if_neg (splitS_ne _ _), joinB_split]
        cases s with
        | nil => exact absurd hd (by decide)
        | cons x r => simp at hd; subst hd; rfl
      · cases h
    · cases h
theorem splitS_word {p : Bs} (hp : ∀ c ∈ p, c ≠ 47) : splitS 47 p = [p] := by
  induction p with
  | nil => rfl
  | cons x r ih =>
    rw [splitS, if_neg (hp x (by simp)), ih fun c hc => hp c (by simp [hc])]
theorem splitS_join {p : Bs} (hp : ∀ c ∈ p, c ≠ 47) (r : Bs) : splitS 47 (p ++ 47 :: r) = p :: splitS 47 r := by
  induction p with
  | nil => rw [List.nil_append, splitS, if_pos rfl]
  | cons x q ih =>
    rw [List.cons_append, splitS, if_neg (hp x (by simp)), ih fun c hc => hp c (by simp [hc])]
theorem word_noslash {p : Bs} (h : wordV p = true) : ∀ c ∈ p, c ≠ 47 := fun c hc => (range_ne (word_range (word_chars h c hc))).2.2.1
theorem split_joinB : ∀ (ps : List Bs) (p : Bs), wordV p = true → (∀ q ∈ ps, wordV q = true) → splitS 47 (p ++ joinB ps) = p :: ps
  | [], p, hp, _ => by unfold joinB; rw [List.flatMap_nil, List.append_nil]; exact splitS_word (word_noslash hp)
  | q :: r, p, hp, h => by
    have e : p ++ joinB (q :: r) = p ++ 47 :: (q ++ joinB r) := by unfold joinB; rw [List.flatMap_cons]; rfl
    rw [e, splitS_join (word_noslash hp), split_joinB r q (h q (by simp)) fun x hx => h x (by simp [hx])]
theorem partsV_iff {ps : List Bs} : partsV ps = true ↔ ps.length ≤ 3 ∧ ∀ p ∈ ps, wordV p = true := by unfold partsV; rw [Bool.and_eq_true, decide_eq_true_eq, List.all_eq_true]
theorem word_ne {p : Bs} (h : wordV p = true) : p ≠ [] := by
  intro e; subst e; cases h
theorem pathP_of {ps : List Bs} (h : partsV ps = true) : pathP (joinP ps) = some ps := by
  obtain ⟨h1, h2⟩ := partsV_iff.1 h
  unfold joinP
  rw [h, if_pos rfl]
  cases ps with
  | nil => rfl
  | cons p r =>
    rw [if_neg (by simp)]
    have e : joinB (p :: r) = 47 :: (p ++ joinB r) := by unfold joinB; rw [List.flatMap_cons]; rfl
    have hne := word_ne (h2 p (by simp))
    unfold pathP
    rw [e, if_neg (by intro e2; injection e2 with _ e2; rw [List.append_eq_nil_iff] at e2; exact hne e2.1), if_pos (by rfl), List.tail_cons, split_joinB r p (h2 p (by simp)) fun x hx => h2 x (by simp [hx]), h, if_pos rfl]
theorem joinP_inj {a b : List Bs} (ha : partsV a = true) (hb : partsV b = true) (h : joinP a = joinP b) : a = b := by
  have h1 := pathP_of ha
  have h2 := pathP_of hb
  rw [h, h2] at h1; injection h1 with h1; exact h1.symm
def belowP (path above : Bs) : Bool := match pathP path, pathP above with | some a, some b => b.isPrefixOf a | _, _ => false

/-! ### walks -/
def folderOf (s : List Pc) (p : Int) : Option (List En) := (getT s p).bind fun t => readF (tx t)
def fileOf (s : List Pc) (p : Int) : Option Bs := (getT s p).bind fun t => readFi (tx t)
def walkP (s : List Pc) : Int → List Bs → Option Int
  | p, [] => if (getT s p).isSome then some p else none
  | p, n :: r => (folderOf s p).bind fun l => (getE l n).bind fun q => walkP s q r
def walkTo (s : List Pc) (root : Int) (path : Bs) : Option Int := if storeV s then (pathP path).bind fun ps => walkP s root ps else none
def readAt (s : List Pc) (root : Int) (path : Bs) : Option Bs := (walkTo s root path).bind fun p => fileOf s p
theorem getT_valid {s : List Pc} (hs : storeV s = true) {p : Int} {t : ByteArray} (h : getT s p = some t) : textV (tx t) = true ∧ prOf (tx t) = p ∧ pv p = true := by
  have := pieceOk_iff.1 (storeV_piece hs (getT_some h))
  have h2 : prOf (tx t) = p := this.2
  exact ⟨this.1, h2, by rw [← h2]; exact prOf_pv this.1⟩
theorem folder_valid {s : List Pc} {p : Int} {l : List En} (h : folderOf s p = some l) : entsV l = true := by
  unfold folderOf at h
  obtain ⟨t, _, h2⟩ := Option.bind_eq_some_iff.1 h
  exact (readF_iff.1 h2).1
theorem walkP_there {s : List Pc} : ∀ {ps : List Bs} {p q : Int}, walkP s p ps = some q → (getT s q).isSome = true
  | [], p, q, h => by
    rw [walkP] at h; split at h
    · rename_i hs; injection h with h; subst h; exact hs
    · cases h
  | n :: r, p, q, h => by
    rw [walkP] at h
    obtain ⟨l, _, h⟩ := Option.bind_eq_some_iff.1 h
    obtain ⟨x, _, h⟩ := Option.bind_eq_some_iff.1 h
    exact walkP_there h
--END
end Go.Proofs.YtaghiefokmapmaaGreatDoor

/- Writing into stores and dropping out of them, in plain Lean. No program in sight. -/
set_option linter.unusedVariables false
namespace Go.Proofs.YtaghiefokmapmaaGreatDoor
--BEGIN
/-! ### some texts more -/
def putAll : List Pc → List ByteArray → Option (List Pc)
  | s, [] => some s
  | s, t :: r => if (putT s t).2.2 then putAll (putT s t).1 r else none
theorem putAll_append : ∀ (a b : List ByteArray) (s : List Pc), putAll s (a ++ b) = (putAll s a).bind fun s' => putAll s' b
  | [], b, s => rfl
  | t :: r, b, s => by
    rw [List.cons_append, putAll, putAll]
    split
    · exact putAll_append r b _
    · rfl
theorem putAll_one (s : List Pc) (t : ByteArray) : putAll s [t] = if (putT s t).2.2 then some (putT s t).1 else none := rfl
theorem putAll_ok : ∀ (ts : List ByteArray) (s s' : List Pc), storeV s = true → putAll s ts = some s' → storeV s' = true ∧ ∀ p, p ∈ s' ↔ p ∈ s ∨ ∃ t ∈ ts, p = (prOf (tx t), t)
  | [], s, s', hs, h => by
    rw [putAll] at h; injection h with h; subst h
    exact ⟨hs, fun p => by simp⟩
  | t :: r, s, s', hs, h => by
    rw [putAll] at h
    split at h
    · rename_i hok
      obtain ⟨_, hp, _⟩ := putT_ok hok
      obtain ⟨h1, h2⟩ := putAll_ok r _ s' hp.valid h
      refine ⟨h1, fun p => ?_⟩
      rw [h2 p, hp.mem p]
      constructor
      · rintro ((h3 | h3) | ⟨u, hu, h3⟩)
        · exact .inl h3
        · exact .inr ⟨t, by simp, h3⟩
        · exact .inr ⟨u, by simp [hu], h3⟩
      · rintro (h3 | ⟨u, hu, h3⟩)
        · exact .inl (.inl h3)
        · rcases List.mem_cons.1 hu with rfl | hu
          · exact .inl (.inr h3)
          · exact .inr ⟨u, hu, h3⟩
    · cases h
theorem nodup_len {α : Type} [DecidableEq α] : ∀ (a b : List α), a.Nodup → (∀ x ∈ a, x ∈ b) → a.length ≤ b.length
  | [], b, _, _ => by simp
  | x :: r, b, h, hs => by
    have hx := hs x (by simp)
    have hn := List.nodup_cons.1 h
    have ih := nodup_len r (b.erase x) hn.2 fun y hy => (List.mem_erase_of_ne (fun e => hn.1 (by rw [← e]; exact hy))).2 (hs y (by simp [hy]))
    rw [List.length_erase_of_mem hx] at ih
    have hp : 0 < b.length := List.length_pos_of_mem hx
    rw [List.length_cons]; omega
theorem putAll_can : ∀ (ts : List ByteArray) (s s' : List Pc), storeV s = true → storeV s' = true → (∀ p, p ∈ s' ↔ p ∈ s ∨ ∃ t ∈ ts, p = (prOf (tx t), t)) → putAll s ts = some s'
  | [], s, s', hs, hs', h => by
    rw [putAll]; congr 1
    exact store_ext hs hs' fun p => by rw [h p]; simp
  | t :: r, s, s', hs, hs', h => by
    have hin : (prOf (tx t), t) ∈ s' := (h _).2 (.inr ⟨t, by simp, rfl⟩)
    have htx := (pieceOk_iff.1 (storeV_piece hs' hin)).1
    have hok : (putT s t).2.2 = true := by
      refine putT_can.2 ⟨hs, htx, fun u hu => ?_, ?_⟩
      · have := sorted_inj (storeV_sorted hs') ((h _).2 (.inl hu)) hin rfl
        injection this
      · by_cases hm : (prOf (tx t), t) ∈ s
        · exact .inl hm
        · right
          have h1 : ((prOf (tx t), t) :: s).length ≤ s'.length := by
            have nl : s.Nodup := (storeV_sorted hs).imp (fun h e => by subst e; omega)
            refine nodup_len _ _ (List.nodup_cons.2 ⟨hm, nl⟩) fun p hp => ?_
            rcases List.mem_cons.1 hp with rfl | hp
            · exact hin
            · exact (h _).2 (.inl hp)
          have h2 := storeV_len hs'
          rw [List.length_cons] at h1; omega
    rw [putAll, if_pos hok]
    obtain ⟨_, hp, _⟩ := putT_ok hok
    refine putAll_can r _ s' hp.valid hs' fun p => ?_
    rw [h p, hp.mem p]
    constructor
    · rintro (h3 | ⟨u, hu, h3⟩)
      · exact .inl (.inl h3)
      · rcases List.mem_cons.1 hu with rfl | hu
        · exact .inl (.inr h3)
        · exact .inr ⟨u, hu, h3⟩
    · rintro ((h3 | h3) | ⟨u, hu, h3⟩)
      · exact .inl h3
      · exact .inr ⟨t, by simp, h3⟩
      · exact .inr ⟨u, by simp [hu], h3⟩
/-- Whatever the order: the same texts lead to the same store, or none. -/
theorem putAll_congr {s : List Pc} {a b : List ByteArray} (hs : storeV s = true) (h : ∀ t, t ∈ a ↔ t ∈ b) : putAll s a = putAll s b := by
  have key : ∀ {a b : List ByteArray} {s' : List Pc}, (∀ t, t ∈ a ↔ t ∈ b) → putAll s a = some s' → putAll s b = some s' := by
    intro a b s' h ha
    obtain ⟨h1, h2⟩ := putAll_ok a s s' hs ha
    refine putAll_can b s s' hs h1 fun p => ?_
    rw [h2 p]
    simp only [h]
  cases ha : putAll s a with
  | some s' => exact (key h ha).symm
  | none =>
    cases hb : putAll s b with
    | none => rfl
    | some s' => rw [key (fun t => (h t).symm) hb] at ha; cases ha
theorem putAll_bad {s : List Pc} {t : ByteArray} {r : List ByteArray} (h : storeV s = false) : putAll s (t :: r) = none := by
  rw [putAll, putT_bad h]; rfl
theorem getT_keep {s s' : List Pc} {ts : List ByteArray} (hs : storeV s = true) (h : putAll s ts = some s') {p : Int} {t : ByteArray} (hg : getT s p = some t) : getT s' p = some t := by
  obtain ⟨h1, h2⟩ := putAll_ok _ _ _ hs h
  exact getT_mem (storeV_sorted h1) ((h2 _).2 (.inl (getT_some hg)))
theorem getT_put {s s' : List Pc} {ts : List ByteArray} (hs : storeV s = true) (h : putAll s ts = some s') {t : ByteArray} (ht : t ∈ ts) : getT s' (prOf (tx t)) = some t := by
  obtain ⟨h1, h2⟩ := putAll_ok _ _ _ hs h
  exact getT_mem (storeV_sorted h1) ((h2 _).2 (.inr ⟨t, ht, rfl⟩))
theorem folder_keep {s s' : List Pc} {ts : List ByteArray} (hs : storeV s = true) (h : putAll s ts = some s') {p : Int} {l : List En} (hg : folderOf s p = some l) : folderOf s' p = some l := by
  unfold folderOf at hg ⊢
  obtain ⟨t, h1, h2⟩ := Option.bind_eq_some_iff.1 hg
  rw [getT_keep hs h h1]; exact h2
theorem file_keep {s s' : List Pc} {ts : List ByteArray} (hs : storeV s = true) (h : putAll s ts = some s') {p : Int} {l : Bs} (hg : fileOf s p = some l) : fileOf s' p = some l := by
  unfold fileOf at hg ⊢
  obtain ⟨t, h1, h2⟩ := Option.bind_eq_some_iff.1 hg
  rw [getT_keep hs h h1]; exact h2

/-! ### writing -/
def leafOk (s : List Pc) : Option Int → Bool
  | some q => (fileOf s q).isSome
  | none => true
def listAt (s : List Pc) : Option Int → Option (List En)
  | some p => folderOf s p
  | none => some []
def foldsW (s : List Pc) : Option Int → List Bs → Option (List (List En))
  | _, [] => some []
  | a, n :: r => (listAt s a).bind fun l => if r.isEmpty && !leafOk s (getE l n) then none else (foldsW s (getE l n) r).map fun fs => l :: fs
def upT : List (List En) → List Bs → Int → Option (List ByteArray × Int)
  | l :: fs, n :: ns, leaf => (upT fs ns leaf).bind fun x => if (putE l (mk n, x.2)).2 then some (x.1 ++ [mk (foldT (putE l (mk n, x.2)).1)], prOf (foldT (putE l (mk n, x.2)).1)) else none
  | _, _, leaf => some ([], leaf)
def writeP (s : List Pc) (root : Int) (ps : List Bs) (c : Bs) : Option (List Pc × Int) :=
  (foldsW s (some root) ps).bind fun fs => (upT fs ps (prOf (fileT c))).bind fun x => (putAll s (mk (fileT c) :: x.1)).map fun s' => (s', x.2)
/-- As the reference goes. -/
def setP (s : List Pc) (a : Option Int) (ps : List Bs) (leaf : Int) : Option (List Pc × Int) :=
  (foldsW s a ps).bind fun fs => (upT fs ps leaf).bind fun x => (putAll s x.1).map fun s' => (s', x.2)
theorem setP_nil (s : List Pc) (a : Option Int) (leaf : Int) : setP s a [] leaf = some (s, leaf) := rfl
def setUp (l : List En) (n : Bs) (x : List Pc × Int) : Option (List Pc × Int) :=
  if (putE l (mk n, x.2)).2 then (if (putT x.1 (mk (foldT (putE l (mk n, x.2)).1))).2.2 then some ((putT x.1 (mk (foldT (putE l (mk n, x.2)).1))).1, prOf (foldT (putE l (mk n, x.2)).1)) else none) else none
theorem setP_cons (s : List Pc) (a : Option Int) (n : Bs) (r : List Bs) (leaf : Int) :
    setP s a (n :: r) leaf = (listAt s a).bind fun l => if r.isEmpty && !leafOk s (getE l n) then none else (setP s (getE l n) r leaf).bind (setUp l n) := by
  unfold setP
  rw [foldsW]
  cases listAt s a with
  | none => rfl
  | some l =>
    simp only [Option.bind_some]
    split
    · rfl
    · cases foldsW s (getE l n) r with
      | none => rfl
      | some fs =>
        simp only [Option.map_some, Option.bind_some]
        rw [upT]
        cases upT fs r leaf with
        | none => rfl
        | some x =>
          simp only [Option.bind_some]
          unfold setUp
          cases hp : putAll s x.1 with
          | none =>
            split
            · simp only [Option.bind_some]; rw [putAll_append, hp]; rfl
            · rfl
          | some s1 =>
            simp only [Option.map_some, Option.bind_some]
            split
            · simp only [Option.bind_some]
              rw [putAll_append, hp, Option.bind_some, putAll_one]
              split <;> rfl
            · rfl
theorem writeP_set {s : List Pc} (hs : storeV s = true) (root : Int) (ps : List Bs) (c : Bs) :
    writeP s root ps c = (setP s (some root) ps (prOf (fileT c))).bind fun x => if (putT x.1 (mk (fileT c))).2.2 then some ((putT x.1 (mk (fileT c))).1, x.2) else none := by
  unfold writeP setP
  cases foldsW s (some root) ps with
  | none => rfl
  | some fs =>
    simp only [Option.bind_some]
    cases upT fs ps (prOf (fileT c)) with
    | none => rfl
    | some x =>
      simp only [Option.bind_some]
      have e : putAll s (mk (fileT c) :: x.1) = putAll s (x.1 ++ [mk (fileT c)]) := putAll_congr hs fun t => by simp [or_comm]
      rw [e, putAll_append]
      cases putAll s x.1 with
      | none => rfl
      | some s1 =>
        simp only [Option.bind_some, Option.map_some]
        rw [putAll_one]
        split <;> rfl
def writeA (s : List Pc) (root : Int) (path c : Bs) : List Pc × Int × Bool :=
  match (if storeV s && contV c then pathP path else none) with
  | some (n :: r) => (match writeP s root (n :: r) c with | some x => (x.1, x.2, true) | none => (s, root, false))
  | _ => ([], -1, false)

/-! ### dropping -/
def foldsD (s : List Pc) : Int → List Bs → List (List En)
  | _, [] => []
  | p, n :: r => ((folderOf s p).getD []) :: foldsD s ((getE ((folderOf s p).getD []) n).getD (-1)) r
def restD (l : List En) (n : Bs) : Option Int → List En
  | some q => (putE l (mk n, q)).1
  | none => (dropE l n).1
def dT : List (List En) → List Bs → List ByteArray × Option Int
  | l :: fs, n :: ns => if restD l n (dT fs ns).2 = [] then ((dT fs ns).1, none) else ((dT fs ns).1 ++ [mk (foldT (restD l n (dT fs ns).2))], some (prOf (foldT (restD l n (dT fs ns).2))))
  | _, _ => ([], none)
def dropTs (x : List ByteArray × Option Int) : List ByteArray × Int := match x.2 with | some p => (x.1, p) | none => (x.1 ++ [mk (foldT [])], prOf (foldT []))
def dropP (s : List Pc) (root : Int) (ps : List Bs) : Option (List Pc × Int) :=
  if (walkP s root ps).isSome then (putAll s (dropTs (dT (foldsD s root ps) ps)).1).map fun s' => (s', (dropTs (dT (foldsD s root ps) ps)).2) else none
def dropA (s : List Pc) (root : Int) (path : Bs) : List Pc × Int × Bool :=
  match (if storeV s then pathP path else none) with
  | some (n :: r) => (match dropP s root (n :: r) with | some x => (x.1, x.2, true) | none => (s, root, false))
  | _ => ([], -1, false)
/-- As the reference goes: a number below 0 stands for an emptied folder. -/
def dropS (s : List Pc) (fs : List (List En)) (ns : List Bs) : Option (List Pc × Int) := (putAll s (dT fs ns).1).map fun s' => (s', (dT fs ns).2.getD (-1))
def dropUp (l : List En) (n : Bs) (x : List Pc × Int) : Option (List Pc × Int) :=
  if restD l n (if x.2 < 0 then none else some x.2) = [] then some (x.1, -1)
  else if (putT x.1 (mk (foldT (restD l n (if x.2 < 0 then none else some x.2))))).2.2 then some ((putT x.1 (mk (foldT (restD l n (if x.2 < 0 then none else some x.2))))).1, prOf (foldT (restD l n (if x.2 < 0 then none else some x.2)))) else none
--END
end Go.Proofs.YtaghiefokmapmaaGreatDoor

/- Versions and tags in plain Lean. -/
set_option linter.unusedVariables false
namespace Go.Proofs.YtaghiefokmapmaaGreatDoor

def verAt (k : Nat) (v : Vr) : Bool := pv v.1 && (decide (-1 ≤ v.2.1) && (decide (v.2.1 < k) && wordV v.2.2.data.toList))
def versFrom : Nat → List Vr → Bool
  | _, [] => true
  | k, v :: r => verAt k v && versFrom (k + 1) r
def versV (l : List Vr) : Bool := decide (l.length ≤ 12) && versFrom 0 l
theorem versFrom_append : ∀ (a : List Vr) (k : Nat) (b : List Vr), versFrom k (a ++ b) = (versFrom k a && versFrom (k + a.length) b)
  | [], k, b => by simp [versFrom]
  | v :: r, k, b => by
    rw [List.cons_append, versFrom, versFrom, versFrom_append r (k + 1) b, Bool.and_assoc]
    congr 3
    simp; omega
theorem versFrom_take {l : List Vr} {k : Nat} (h : k < l.length) : versFrom 0 (l.take (k + 1)) = (versFrom 0 (l.take k) && verAt k l[k]) := by
  rw [List.take_succ_eq_append_getElem h, versFrom_append]
  have : (l.take k).length = k := by rw [List.length_take]; omega
  simp [versFrom, this]
theorem versFrom_bad {l : List Vr} {k : Nat} (h : k < l.length) (hv : verAt k l[k] = false) : versFrom 0 l = false := by
  have h1 : l = l.take (k + 1) ++ l.drop (k + 1) := (List.take_append_drop _ _).symm
  rw [h1, versFrom_append, versFrom_take h, hv, Bool.and_false, Bool.false_and]
theorem versFrom_all {l : List Vr} {k : Nat} (h : ¬ k < l.length) (hv : versFrom 0 (l.take k) = true) : versFrom 0 l = true := by
  rwa [List.take_of_length_le (by omega)] at hv
theorem versFrom_at : ∀ (l : List Vr) (j k : Nat) (h : k < l.length), versFrom j l = true → verAt (j + k) l[k] = true
  | [], _, _, h, _ => by simp at h
  | v :: r, j, 0, _, hv => by rw [versFrom, Bool.and_eq_true] at hv; simpa using hv.1
  | v :: r, j, k + 1, h, hv => by
    rw [versFrom, Bool.and_eq_true] at hv
    have := versFrom_at r (j + 1) k (by simpa using h) hv.2
    have e : j + (k + 1) = j + 1 + k := by omega
    rw [e]; exact this
theorem versV_len {l : List Vr} (h : versV l = true) : l.length ≤ 12 := by
  unfold versV at h; rw [Bool.and_eq_true] at h; simpa using h.1
theorem versV_at {l : List Vr} (h : versV l = true) {k : Nat} (hk : k < l.length) : verAt k l[k] = true := by
  unfold versV at h; rw [Bool.and_eq_true] at h
  have := versFrom_at l 0 k hk h.2
  simpa using this
theorem verAt_iff {k : Nat} {v : Vr} : verAt k v = true ↔ pv v.1 = true ∧ -1 ≤ v.2.1 ∧ v.2.1 < k ∧ wordV v.2.2.data.toList = true := by
  unfold verAt; simp only [Bool.and_eq_true, decide_eq_true_eq]

def makeTag (l : List Vr) (name : ByteArray) (n : Int) : Option Tg :=
  if wordV name.data.toList && versV l && decide (0 ≤ n ∧ n < l.length) then some (name, n, (l.getD n.toNat (0, 0, name)).1, prList [prOf name.data.toList, n, (l.getD n.toNat (0, 0, name)).1]) else none
def tagR (l : List Vr) (t : Tg) : Bool := decide (makeTag l t.1 t.2.1 = some t)
def rightTags (l : List Vr) (ts : List Tg) : List Tg := ts.filter (tagR l)
theorem makeTag_ok {l : List Vr} {name : ByteArray} {k : Nat} (hw : wordV name.data.toList = true) (hv : versV l = true) (hk : k < l.length) : makeTag l name k = some (name, (k : Int), l[k].1, prList [prOf name.data.toList, (k : Int), l[k].1]) := by
  have e : l.getD k (0, 0, name) = l[k] := by rw [List.getD_eq_getElem?_getD, List.getElem?_eq_getElem hk]; rfl
  unfold makeTag
  rw [hw, hv, if_pos (by simp; omega), Int.toNat_natCast, e]
theorem makeTag_none {l : List Vr} {name : ByteArray} {n : Int} (h : wordV name.data.toList = false ∨ versV l = false ∨ n < 0 ∨ (l.length : Int) ≤ n) : makeTag l name n = none := by
  unfold makeTag
  rw [if_neg]
  intro hh
  simp only [Bool.and_eq_true, decide_eq_true_eq] at hh
  rcases h with h | h | h | h
  · rw [h] at hh; cases hh.1.1
  · rw [h] at hh; cases hh.1.2
  · omega
  · omega
theorem makeTag_some {l : List Vr} {name : ByteArray} {n : Int} {t : Tg} (h : makeTag l name n = some t) : ∃ (k : Nat) (hk : k < l.length), n = k ∧ wordV name.data.toList = true ∧ versV l = true ∧ t = (name, (k : Int), l[k].1, prList [prOf name.data.toList, (k : Int), l[k].1]) := by
  by_cases hh : (wordV name.data.toList && versV l && decide (0 ≤ n ∧ n < l.length)) = true
  · simp only [Bool.and_eq_true, decide_eq_true_eq] at hh
    obtain ⟨⟨h1, h2⟩, h3⟩ := hh
    obtain ⟨k, rfl⟩ := Int.eq_ofNat_of_zero_le h3.1
    have hk : k < l.length := by omega
    have h4 := makeTag_ok h1 h2 hk
    rw [h4] at h
    injection h with h
    exact ⟨k, hk, rfl, h1, h2, h.symm⟩
  · unfold makeTag at h
    rw [if_neg hh] at h; cases h
theorem tagR_iff {l : List Vr} {t : Tg} : tagR l t = true ↔ makeTag l t.1 t.2.1 = some t := by unfold tagR; exact decide_eq_true_iff
/-- A made tag is right. -/
theorem tagR_made {l : List Vr} {name : ByteArray} {n : Int} {t : Tg} (h : makeTag l name n = some t) : tagR l t = true ∧ t.1 = name ∧ t.2.1 = n := by
  obtain ⟨k, hk, rfl, h1, h2, rfl⟩ := makeTag_some h
  exact ⟨tagR_iff.2 h, rfl, rfl⟩
/-- With another seal a right tag is wrong. -/
theorem tagR_seal {l : List Vr} {a : ByteArray} {n r s s' : Int} (h : tagR l (a, n, r, s) = true) (hne : s' ≠ s) : tagR l (a, n, r, s') = false := by
  cases h2 : tagR l (a, n, r, s')
  · rfl
  · have h1 := tagR_iff.1 h
    have h2 := tagR_iff.1 h2
    simp only at h1 h2
    rw [h1] at h2
    injection h2 with h2
    injection h2 with _ h2
    injection h2 with _ h2
    injection h2 with _ h2
    exact absurd h2.symm hne
theorem versV_snoc {l : List Vr} {v : Vr} (hl : versV l = true) : versV (l ++ [v]) = (decide (l.length < 12) && verAt l.length v) := by
  unfold versV at *
  rw [Bool.and_eq_true] at hl
  rw [versFrom_append, hl.2, List.length_append]
  simp [versFrom]
  congr 1
  rw [decide_eq_decide]; omega
/-- A right tag stays right when a version is added. -/
theorem tagR_stays {l : List Vr} {v : Vr} {t : Tg} (hl : versV (l ++ [v]) = true) (h : tagR l t = true) : tagR (l ++ [v]) t = true := by
  obtain ⟨k, hk, h1, h2, h3, h4⟩ := makeTag_some (tagR_iff.1 h)
  refine tagR_iff.2 ?_
  rw [h1, makeTag_ok h2 hl (by simp; omega), List.getElem_append_left hk]
  exact congrArg some h4.symm
theorem rightTags_idem (l : List Vr) (ts : List Tg) : rightTags l (rightTags l ts) = rightTags l ts := by
  unfold rightTags; rw [List.filter_filter]; simp
end Go.Proofs.YtaghiefokmapmaaGreatDoor

/- Files below a root, sizes, quotas, archives, in plain Lean. No program in sight. -/
set_option linter.unusedVariables false
namespace Go.Proofs.YtaghiefokmapmaaGreatDoor
--BEGIN
/-! ### files -/
def filesP (s : List Pc) : Nat → Int → List Bs → List Bs
  | 0, _, _ => []
  | f + 1, p, ps => ((folderOf s p).getD []).flatMap fun e => if (fileOf s e.2).isSome then [joinP (ps ++ [tx e.1])] else filesP s f e.2 (ps ++ [tx e.1])
def allF (s : List Pc) (root : Int) : List Bs := if storeV s then filesP s 3 root [] else []
def specF (s : List Pc) (p : Int) (ps : List Bs) : List Bs := if (fileOf s p).isSome && !ps.isEmpty then [joinP ps] else filesP s (3 - ps.length) p ps
def contentAt (s : List Pc) (root : Int) (path : Bs) : Bs := (readAt s root path).getD []
def sizeOf' (s : List Pc) (root : Int) (l : List Bs) : Int := l.foldl (fun n p => n + ((contentAt s root p).length : Int)) 0
def totalP (s : List Pc) (root : Int) : Int := sizeOf' s root (allF s root)
def usedP (s : List Pc) (root : Int) (path : Bs) : Int := if (pathP path).isSome && storeV s then sizeOf' s root ((allF s root).filter fun f => belowP f path) else -1
abbrev Qt := ByteArray × Int
def encQ (q : Qt) : List Value := [.string q.1, .int .i64 q.2]
def quoAt (l : List Qt) (k : Nat) : Bool := match l[k]? with | some q => (pathP (tx q.1)).isSome && inI q.2 0 1000 && !((l.take k).any fun o => tx o.1 == tx q.1) | none => true
def quoV (l : List Qt) : Bool := decide (l.length ≤ 6) && (List.range l.length).all (quoAt l)
def overP (s : List Pc) (root : Int) (l : List Qt) : List Bs := if quoV l && storeV s then (l.filter fun q => decide (usedP s root (tx q.1) > q.2)).map fun q => tx q.1 else []

/-! ### archives -/
structure Ar where
  ps : List Pc
  op : Int
  vs : List Vr
def archV (a : Ar) : Bool := storeV a.ps && (versV a.vs && ((folderOf a.ps a.op).isSome && a.vs.all fun v => (folderOf a.ps v.1).isSome))
def newA (s : List Pc) : Ar × Bool := if (putT s (mk (foldT []))).2.2 then (⟨(putT s (mk (foldT []))).1, (putT s (mk (foldT []))).2.1, []⟩, true) else (⟨[], 0, []⟩, false)
def addV (l : List Vr) (v : Vr) : List Vr × Bool := if versV l then (if versV (l ++ [v]) then (l ++ [v], true) else (l, false)) else ([], false)
def joinW (c : Bs) : List Bs → Bs
  | [] => []
  | [p] => p
  | p :: r => p ++ c ++ joinW c r
def filesAns (a : Ar) : Bs := if allF a.ps a.op = [] then [110, 111, 110, 101] else joinW [32] (allF a.ps a.op)
def wWrite : Bs := [119, 114, 105, 116, 101]
def wDrop : Bs := [100, 114, 111, 112]
def wKeep : Bs := [107, 101, 101, 112]
def wBack : Bs := [98, 97, 99, 107]
def wRead : Bs := [114, 101, 97, 100]
def wFiles : Bs := [102, 105, 108, 101, 115]
def wOk : Bs := [111, 107]
def wNo : Bs := [110, 111]
def lineA (a : Ar) (ws : List Bs) : Ar × Bs :=
  match ws with
  | [x, p, c] => if x = wWrite then (match writeA a.ps a.op p c with | (s, r, true) => (⟨s, r, a.vs⟩, wOk) | _ => (a, wNo)) else (a, wNo)
  | [x, p] =>
    if x = wDrop then (match dropA a.ps a.op p with | (s, r, true) => (⟨s, r, a.vs⟩, wOk) | _ => (a, wNo))
    else if x = wKeep then (match addV a.vs (a.op, (a.vs.length : Int) - 1, mk p) with | (v, true) => (⟨a.ps, a.op, v⟩, wOk) | _ => (a, wNo))
    else if x = wBack then (if 0 ≤ readH p ∧ readH p < a.vs.length then (⟨a.ps, ((a.vs.getD (readH p).toNat (0, 0, ⟨#[]⟩)).1), a.vs⟩, wOk) else (a, wNo))
    else if x = wRead then (match readAt a.ps a.op p with | some t => (a, 61 :: t) | none => (a, wNo))
    else (a, wNo)
  | [x] => if x = wFiles then (a, filesAns a) else (a, wNo)
  | _ => (a, wNo)
def archL (a : Ar) (line : Bs) : Ar × Bs := if archV a then lineA a (splitS 32 line) else (⟨[], 0, []⟩, [])
def archLs : Ar → List Bs → Ar × List Bs
  | a, [] => (a, [])
  | a, l :: r => ((archLs (archL a l).1 r).1, (archL a l).2 :: (archLs (archL a l).1 r).2)
def archM (a : Ar) (ls : List Bs) : Ar × List Bs := if archV a && decide (ls.length ≤ 12) then archLs a ls else (⟨[], 0, []⟩, [])
--END
end Go.Proofs.YtaghiefokmapmaaGreatDoor

/- Walks by names, files below a root: plain lemmas for the walks of the code. -/
set_option linter.unusedVariables false
namespace Go.Proofs.YtaghiefokmapmaaGreatDoor
open Go.RowKit
def walkB (s : List Pc) (p : Int) (l : List ByteArray) : Option Int := walkP s p (l.map tx)
theorem walkB_step {s : List Pc} {p : Int} {l : List ByteArray} {k : Nat} (hk : k < l.length) :
    walkB s p (l.drop k) = (folderOf s p).bind fun e => (getE e (tx l[k])).bind fun q => walkB s q (l.drop (k + 1)) := by
  rw [List.drop_eq_getElem_cons hk]; rfl
theorem walkB_none {s : List Pc} {p : Int} {l : List ByteArray} {k : Nat} (hk : k < l.length) (h : folderOf s p = none) : walkB s p (l.drop k) = none := by
  rw [walkB_step hk, h]; rfl
theorem walkB_miss {s : List Pc} {p : Int} {l : List ByteArray} {k : Nat} {e : List En} (hk : k < l.length) (h : folderOf s p = some e) (h2 : getE e (tx l[k]) = none) : walkB s p (l.drop k) = none := by
  rw [walkB_step hk, h, Option.bind_some, h2]; rfl
theorem walkB_next {s : List Pc} {p q : Int} {l : List ByteArray} {k : Nat} {e : List En} (hk : k < l.length) (h : folderOf s p = some e) (h2 : getE e (tx l[k]) = some q) : walkB s p (l.drop k) = walkB s q (l.drop (k + 1)) := by
  rw [walkB_step hk, h, Option.bind_some, h2]; rfl
theorem walkB_end {s : List Pc} {p : Int} {l : List ByteArray} {k : Nat} (hk : l.length ≤ k) : walkB s p (l.drop k) = if (getT s p).isSome then some p else none := by
  rw [List.drop_eq_nil_of_le hk]; rfl
theorem walkTo_path {s : List Pc} {root : Int} {path : Bs} (h : pathP path = none) : walkTo s root path = none := by
  unfold walkTo; rw [h]; split <;> rfl
theorem walkTo_store {s : List Pc} {root : Int} {path : Bs} (h : storeV s = false) : walkTo s root path = none := by
  unfold walkTo; rw [h]; rfl
theorem walkTo_yes {s : List Pc} {root : Int} {path : Bs} {ps : List Bs} {l : List ByteArray} (h : storeV s = true) (h2 : pathP path = some ps) (hl : l = ps.map mk) : walkTo s root path = walkB s root (l.drop 0) := by
  subst hl
  unfold walkTo walkB
  rw [h, if_pos rfl, h2, Option.bind_some, List.drop_zero, List.map_map]
  congr 1
  exact (List.map_id' _).symm
theorem getE_find {l : List En} {n : Bs} {k : Nat} (hk : k < l.length) (h : ∀ j (h : j < l.length), j < k → tx l[j].1 ≠ n) (he : tx l[k].1 = n) : getE l n = some l[k].2 := by
  unfold getE
  have : l.find? (fun x => tx x.1 == n) = some l[k] := by
    rw [List.find?_eq_some_iff_getElem]
    refine ⟨by simpa using he, k, hk, rfl, fun j hj => ?_⟩
    have := h j (by omega) hj
    simpa using this
  rw [this]; rfl
theorem getE_end {l : List En} {n : Bs} (h : ∀ j (h : j < l.length), tx l[j].1 ≠ n) : getE l n = none := by
  refine getE_none_iff.2 fun x hx => ?_
  obtain ⟨i, hi, rfl⟩ := List.getElem_of_mem hx
  exact h i hi
/-! ### files below -/
def stepF (s : List Pc) (f : Nat) (ps : List Bs) (e : En) : List Bs := if (fileOf s e.2).isSome then [joinP (ps ++ [tx e.1])] else filesP s f e.2 (ps ++ [tx e.1])
theorem filesP_succ (s : List Pc) (f : Nat) (p : Int) (ps : List Bs) : filesP s (f + 1) p ps = ((folderOf s p).getD []).flatMap (stepF s f ps) := rfl
def accF (s : List Pc) (f : Nat) (ps : List Bs) (l : List En) (k : Nat) : List ByteArray := ((l.take k).flatMap (stepF s f ps)).map mk
theorem accF_zero (s : List Pc) (f : Nat) (ps : List Bs) (l : List En) : accF s f ps l 0 = [] := rfl
theorem accF_next {s : List Pc} {f : Nat} {ps : List Bs} {l : List En} {k : Nat} (hk : k < l.length) : accF s f ps l (k + 1) = accF s f ps l k ++ (stepF s f ps l[k]).map mk := by
  unfold accF
  rw [← List.take_append_getElem hk, List.flatMap_append, List.map_append]
  congr 2
  simp
theorem accF_all {s : List Pc} {f : Nat} {ps : List Bs} {l : List En} {k : Nat} (hk : l.length ≤ k) : accF s f ps l k = (l.flatMap (stepF s f ps)).map mk := by
  unfold accF; rw [List.take_of_length_le hk]
theorem folder_len {s : List Pc} {p : Int} : ((folderOf s p).getD []).length ≤ 3 := by
  cases h : folderOf s p with
  | none => simp
  | some l => exact entsV_len (folder_valid h)
theorem flatMap_len {α β : Type} (g : α → List β) (n : Nat) : ∀ l : List α, (∀ x ∈ l, (g x).length ≤ n) → (l.flatMap g).length ≤ n * l.length
  | [], _ => by simp
  | x :: r, h => by
    have h1 := h x (by simp)
    have h2 := flatMap_len g n r fun y hy => h y (by simp [hy])
    rw [List.flatMap_cons, List.length_append, List.length_cons, Nat.mul_succ]; omega
theorem filesP_len (s : List Pc) : ∀ (f : Nat) (p : Int) (ps : List Bs), (filesP s f p ps).length ≤ 3 ^ f
  | 0, _, _ => by simp [filesP]
  | f + 1, p, ps => by
    rw [filesP_succ]
    have h1 := flatMap_len (stepF s f ps) (3 ^ f) ((folderOf s p).getD []) fun e _ => by
      unfold stepF
      have hp : 0 < 3 ^ f := Nat.pow_pos (by omega)
      split
      · exact hp
      · exact filesP_len s f _ _
    have h2 := folder_len (s := s) (p := p)
    rw [Nat.pow_succ]
    exact Nat.le_trans h1 (Nat.mul_le_mul_left _ h2)
theorem stepF_len (s : List Pc) (f : Nat) (ps : List Bs) (e : En) : (stepF s f ps e).length ≤ 3 ^ f := by
  unfold stepF
  have hp : 0 < 3 ^ f := Nat.pow_pos (by omega)
  split
  · exact hp
  · exact filesP_len s f _ _
theorem accF_len {s : List Pc} {f : Nat} {ps : List Bs} {l : List En} {k : Nat} (h : l.length ≤ 3) : (accF s f ps l k).length ≤ 3 ^ f * 3 := by
  unfold accF
  rw [List.length_map]
  refine Nat.le_trans (flatMap_len _ (3 ^ f) _ fun e _ => stepF_len s f ps e) (Nat.mul_le_mul_left _ ?_)
  rw [List.length_take]; omega
theorem joinB_len : ∀ (ps : List Bs), (∀ p ∈ ps, wordV p = true) → (joinB ps).length ≤ 9 * ps.length
  | [], _ => by simp [joinB]
  | p :: r, h => by
    have h1 := h p (by simp)
    have h2 := joinB_len r fun x hx => h x (by simp [hx])
    unfold wordV at h1
    rw [Bool.and_eq_true, Bool.and_eq_true, decide_eq_true_eq] at h1
    unfold joinB at h2 ⊢
    rw [List.flatMap_cons, List.length_append, List.length_cons, List.length_cons]; omega
theorem joinP_len (ps : List Bs) : (joinP ps).length ≤ 27 := by
  unfold joinP
  split
  · rename_i h
    obtain ⟨h1, h2⟩ := partsV_iff.1 h
    split
    · simp
    · have := joinB_len ps h2; omega
  · simp
theorem filesP_size (s : List Pc) : ∀ (f : Nat) (p : Int) (ps : List Bs), ∀ x ∈ filesP s f p ps, x.length ≤ 27
  | 0, _, _, x, hx => by cases hx
  | f + 1, p, ps, x, hx => by
    rw [filesP_succ] at hx
    obtain ⟨e, _, hx⟩ := List.mem_flatMap.1 hx
    unfold stepF at hx
    split at hx
    · rw [List.mem_singleton] at hx; subst hx; exact joinP_len _
    · exact filesP_size s f _ _ x hx
theorem allF_len (s : List Pc) (root : Int) : (allF s root).length ≤ 27 := by
  unfold allF; split
  · exact filesP_len s 3 root []
  · simp
theorem allF_size (s : List Pc) (root : Int) : ∀ x ∈ allF s root, x.length ≤ 27 := by
  unfold allF; split
  · exact filesP_size s 3 root []
  · simp
/-! ### the reference's files -/
theorem specF_file {s : List Pc} {p : Int} {ps : List Bs} (h : (fileOf s p).isSome = true) (hp : ps ≠ []) : specF s p ps = [joinP ps] := by
  unfold specF
  rw [h, if_pos]; cases ps with
  | nil => exact absurd rfl hp
  | cons => rfl
theorem specF_long {s : List Pc} {p : Int} {ps : List Bs} (h : (fileOf s p).isSome = false ∨ ps = []) (hl : 3 ≤ ps.length) : specF s p ps = [] := by
  unfold specF
  rw [if_neg]
  · rw [show 3 - ps.length = 0 by omega]; rfl
  · rcases h with h | h
    · rw [h]; simp
    · subst h; simp
theorem specF_step {s : List Pc} {ps : List Bs} {e : En} (hl : ps.length < 3) : specF s e.2 (ps ++ [tx e.1]) = stepF s (2 - ps.length) ps e := by
  unfold specF stepF
  rw [show (ps ++ [tx e.1]).isEmpty = false by cases ps <;> rfl, List.length_append, List.length_singleton, show 3 - (ps.length + 1) = 2 - ps.length by omega]
  simp
theorem specF_folder {s : List Pc} {p : Int} {ps : List Bs} (h : (fileOf s p).isSome = false ∨ ps = []) (hl : ps.length < 3) : specF s p ps = ((folderOf s p).getD []).flatMap (stepF s (2 - ps.length) ps) := by
  unfold specF
  rw [if_neg]
  · rw [show 3 - ps.length = (2 - ps.length) + 1 by omega]; rfl
  · rcases h with h | h
    · rw [h]; simp
    · subst h; simp
theorem specF_root (s : List Pc) (root : Int) : specF s root [] = filesP s 3 root [] := by
  unfold specF; simp
theorem specF_len (s : List Pc) (p : Int) (ps : List Bs) : (specF s p ps).length ≤ 27 := by
  unfold specF; split
  · simp
  · refine Nat.le_trans (filesP_len s _ p ps) ?_
    exact Nat.pow_le_pow_right (n := 3) (by omega) (show 3 - ps.length ≤ 3 by omega)
end Go.Proofs.YtaghiefokmapmaaGreatDoor

/- Words of a text, and repaired pieces, in plain Lean. -/
set_option linter.unusedVariables false
namespace Go.Proofs.YtaghiefokmapmaaGreatDoor

def addW (acc : List Bs) (w : Bs) : List Bs := if wordV w && !acc.contains w then acc ++ [w] else acc
/-- The parts between spaces; 'cur' is what of the first part was read. -/
def spl : Bs → Bs → List Bs
  | cur, [] => [cur]
  | cur, c :: r => if c = 32 then cur :: spl [] r else spl (cur ++ [c]) r
def wordsOf (s : Bs) : List Bs := if textV s then (spl [] s).foldl addW [] else []
/-- The reference's way: byte by byte. -/
def wrun : List Bs → Bs → Bs → List Bs × Bs
  | out, w, [] => (out, w)
  | out, w, c :: r => if c = 32 then wrun (addW out w) [] r else wrun out (w ++ [c]) r
theorem wrun_spl : ∀ (r : Bs) (out : List Bs) (w : Bs), addW (wrun out w r).1 (wrun out w r).2 = (spl w r).foldl addW out
  | [], out, w => rfl
  | c :: r, out, w => by
    rw [wrun, spl]
    split
    · rw [wrun_spl r]; rfl
    · rw [wrun_spl r]
theorem wrun_snoc : ∀ (r : Bs) (out : List Bs) (w : Bs) (c : UInt8), wrun out w (r ++ [c]) = if c = 32 then (addW (wrun out w r).1 (wrun out w r).2, []) else ((wrun out w r).1, (wrun out w r).2 ++ [c])
  | [], out, w, c => by simp only [List.nil_append, wrun]
  | d :: r, out, w, c => by
    rw [List.cons_append, wrun, wrun]
    split
    · exact wrun_snoc r _ _ c
    · exact wrun_snoc r _ _ c
/-- All valid, none twice. -/
def WordsOk (l : List Bs) : Prop := (∀ w ∈ l, wordV w = true) ∧ l.Nodup
theorem addW_ok {l : List Bs} (w : Bs) (h : WordsOk l) : WordsOk (addW l w) := by
  unfold addW
  split
  · rename_i hh
    simp only [Bool.and_eq_true, Bool.not_eq_true', List.contains_eq_mem, decide_eq_false_iff_not] at hh
    refine ⟨fun x hx => ?_, ?_⟩
    · rw [List.mem_append, List.mem_singleton] at hx
      rcases hx with hx | rfl
      · exact h.1 x hx
      · exact hh.1
    · rw [List.nodup_append]
      refine ⟨h.2, by simp, fun a ha b hb => ?_⟩
      rw [List.mem_singleton] at hb; subst hb
      rintro rfl
      exact hh.2 ha
  · exact h
theorem foldl_ok : ∀ (ps : List Bs) (l : List Bs), WordsOk l → WordsOk (ps.foldl addW l)
  | [], l, h => h
  | p :: ps, l, h => foldl_ok ps _ (addW_ok p h)
theorem wordsOf_ok (s : Bs) : WordsOk (wordsOf s) := by
  unfold wordsOf
  split
  · exact foldl_ok _ _ ⟨by simp, List.nodup_nil⟩
  · exact ⟨by simp, List.nodup_nil⟩
theorem spl_append : ∀ (r : Bs) (cur q : Bs), spl cur (r ++ 32 :: q) = spl cur r ++ spl [] q
  | [], cur, q => by simp [spl]
  | c :: r, cur, q => by
    rw [List.cons_append, spl, spl]
    split
    · rw [spl_append r]; rfl
    · rw [spl_append r]
theorem wordsOf_zoo {s : Bs} (h : textV (s ++ [32, 122, 111, 111]) = true) : textV s = true ∧ wordsOf (s ++ [32, 122, 111, 111]) = addW (wordsOf s) [122, 111, 111] := by
  have hs : textV s = true := by
    unfold textV at *
    rw [Bool.and_eq_true, decide_eq_true_eq] at *
    rw [List.all_append, Bool.and_eq_true] at h
    refine ⟨?_, h.2.1⟩
    have := h.1; simp at this; omega
  refine ⟨hs, ?_⟩
  unfold wordsOf
  rw [if_pos h, if_pos hs, spl_append, List.foldl_append]
  rfl
theorem spl_len : ∀ (r cur : Bs), (spl cur r).length ≤ r.length + 1
  | [], cur => by simp [spl]
  | c :: r, cur => by
    rw [spl]; split
    · have := spl_len r []; simp; omega
    · have := spl_len r (cur ++ [c]); simp; omega
theorem foldl_len : ∀ (ps l : List Bs), (ps.foldl addW l).length ≤ l.length + ps.length
  | [], l => by simp
  | p :: ps, l => by
    have := foldl_len ps (addW l p)
    have h2 : (addW l p).length ≤ l.length + 1 := by unfold addW; split <;> simp
    simp only [List.foldl_cons, List.length_cons]; omega
theorem textV_le {s : Bs} (h : textV s = true) : s.length ≤ 60 := by
  unfold textV at h; rw [Bool.and_eq_true] at h; simpa using h.1
theorem wordsOf_len (s : Bs) : (wordsOf s).length ≤ 61 := by
  unfold wordsOf; split
  · rename_i h
    have h1 := foldl_len (spl [] s) []
    have h2 := spl_len s []
    have h3 := textV_le h
    simp at h1; omega
  · simp
/-- Every part is no longer than the text. -/
theorem spl_short : ∀ (r cur : Bs), ∀ p ∈ spl cur r, p.length ≤ cur.length + r.length
  | [], cur, p, h => by simp [spl] at h; subst h; simp
  | c :: r, cur, p, h => by
    rw [spl] at h
    split at h
    · rw [List.mem_cons] at h
      rcases h with rfl | h
      · omega
      · have := spl_short r [] p h; simp at this ⊢; omega
    · have := spl_short r _ p h; simp at this ⊢; omega
def commonW (a b : Bs) : List Bs := (wordsOf a).filter fun w => (wordsOf b).contains w
theorem commonW_self (a : Bs) : commonW a a = wordsOf a := by
  unfold commonW; rw [List.filter_eq_self]; intro w hw; simpa using hw
theorem commonW_len (a b : Bs) : (commonW a b).length = (commonW b a).length := by
  have h1 := wordsOf_ok a
  have h2 := wordsOf_ok b
  have hp : (commonW a b).Perm (commonW b a) := by
    refine (List.perm_ext_iff_of_nodup (h1.2.filter _) (h2.2.filter _)).2 fun w => ?_
    simp only [List.mem_filter, List.contains_eq_mem, decide_eq_true_eq]
    exact And.comm
  exact hp.length_eq
theorem commonW_le (a b : Bs) : (commonW a b).length ≤ (wordsOf a).length := List.length_filter_le _ _
end Go.Proofs.YtaghiefokmapmaaGreatDoor

/- Cutting a text at a byte, in plain Lean: the library's words and ours. -/
set_option linter.unusedVariables false
namespace Go.Proofs.YtaghiefokmapmaaGreatDoor
open Go.Lib (splitK index indexByte)
theorem index_hit (x : UInt8) (r : Bs) : index (x :: r) [x] = 0 := by rw [Go.Lib.index_one, indexByte]; simp
theorem index_skip {x c : UInt8} (h : c ≠ x) (r : Bs) : index (c :: r) [x] = if index r [x] == -1 then -1 else index r [x] + 1 := by
  rw [Go.Lib.index_one, Go.Lib.index_one, indexByte]
  have : (c == x) = false := by simpa using h
  rw [this]; simp
theorem index_nil (x : UInt8) : index [] [x] = -1 := rfl
theorem splitK_hit (x : UInt8) (k : Nat) (r : Bs) : splitK [x] 0 (k + 1) (x :: r) = [] :: splitK [x] 0 k r := by
  rw [splitK, index_hit]; rfl
theorem splitK_ne (x : UInt8) : ∀ (k : Nat) (s : Bs), splitK [x] 0 k s ≠ []
  | 0, s => by simp [splitK]
  | k + 1, s => by rw [splitK]; split <;> simp
/-- One byte more ahead, which is not the one at which it is cut. -/
def onHead (c : UInt8) : List Bs → List Bs
  | [] => []
  | p :: ps => (c :: p) :: ps
theorem splitK_skip {x c : UInt8} (h : c ≠ x) : ∀ (k : Nat) (r : Bs), splitK [x] 0 k (c :: r) = onHead c (splitK [x] 0 k r)
  | 0, r => rfl
  | k + 1, r => by
    have hge := Go.Lib.index_ge r [x]
    rw [splitK, splitK, index_skip h]
    by_cases e : index r [x] = -1
    · simp [e, onHead]
    · have e1 : (index r [x] == -1) = false := by simpa using e
      have e2 : (index r [x] + 1 == -1) = false := by simp; omega
      rw [e1]
      simp only [Bool.false_eq_true, if_false, e2]
      have e3 : (index r [x] + 1).toNat = (index r [x]).toNat + 1 := by omega
      rw [e3]
      simp [onHead]
theorem index_count (x : UInt8) : ∀ (s : Bs), (index s [x] = -1 → s.count x = 0) ∧ (∀ i : Nat, index s [x] = i → i < s.length ∧ s.count x = 1 + (s.drop (i + 1)).count x)
  | [] => ⟨fun _ => rfl, fun i h => by rw [index_nil] at h; omega⟩
  | c :: r => by
    have ih := index_count x r
    have hge := Go.Lib.index_ge r [x]
    by_cases e : c = x
    · subst e
      rw [index_hit]
      refine ⟨fun h => by omega, fun i h => ?_⟩
      have : i = 0 := by omega
      subst this
      simp; omega
    · rw [index_skip e, List.count_cons_of_ne (by simpa using e)]
      by_cases e2 : index r [x] = -1
      · rw [e2]
        refine ⟨fun _ => ih.1 e2, fun i h => ?_⟩
        simp at h
      · have e3 : (index r [x] == -1) = false := by simpa using e2
        rw [e3]
        simp only [Bool.false_eq_true, if_false]
        refine ⟨fun h => by omega, fun i h => ?_⟩
        obtain ⟨j, hj⟩ := Int.eq_ofNat_of_zero_le (show 0 ≤ index r [x] by omega)
        have h2 := ih.2 j hj
        have : i = j + 1 := by omega
        subst this
        simp only [List.length_cons, List.drop_succ_cons]
        exact ⟨by omega, h2.2⟩
theorem countFrom_one (x : UInt8) : ∀ (f : Nat) (s : Bs), s.length < f → Go.Lib.countFrom [x] f s = s.count x
  | 0, s, h => by omega
  | f + 1, s, h => by
    rw [Go.Lib.countFrom]
    have hc := index_count x s
    have hge := Go.Lib.index_ge s [x]
    by_cases e : index s [x] = -1
    · rw [e, hc.1 e]; rfl
    · have e2 : (index s [x] == -1) = false := by simpa using e
      rw [e2]
      simp only [Bool.false_eq_true, if_false]
      obtain ⟨j, hj⟩ := Int.eq_ofNat_of_zero_le (show 0 ≤ index s [x] by omega)
      have h2 := hc.2 j hj
      rw [hj, Int.toNat_natCast, h2.2]
      congr 1
      exact countFrom_one x f _ (by simp; omega)
theorem count_one (s : Bs) (x : UInt8) : Go.Lib.count s [x] = s.count x := countFrom_one x _ s (by omega)
theorem spl_splitK : ∀ (s : Bs) (k : Nat) (cur : Bs), s.count 32 ≤ k → spl cur s = match splitK [32] 0 k s with | p :: ps => (cur ++ p) :: ps | [] => []
  | [], k, cur, _ => by
    cases k <;> simp [splitK, spl, index_nil]
  | c :: r, k, cur, h => by
    rw [spl]
    by_cases e : c = 32
    · subst e
      rw [if_pos rfl]
      cases k with
      | zero => simp at h
      | succ k =>
        rw [splitK_hit]
        have ih := spl_splitK r k [] (by simp at h; omega)
        rw [ih]
        cases hs : splitK [32] 0 k r with
        | nil => exact absurd hs (splitK_ne _ _ _)
        | cons p ps => simp
    · rw [if_neg e]
      have ih := spl_splitK r k (cur ++ [c]) (by rw [List.count_cons_of_ne (by simpa using e)] at h; exact h)
      rw [ih, splitK_skip e]
      cases hs : splitK [32] 0 k r with
      | nil => exact absurd hs (splitK_ne _ _ _)
      | cons p ps => simp [onHead]
theorem split_spl (s : Bs) : splitK [32] 0 (Go.Lib.count s [32]) s = spl [] s := by
  have h := spl_splitK s (Go.Lib.count s [32]) [] (by rw [count_one]; exact Nat.le_refl _)
  rw [h]
  cases hs : splitK [32] 0 (Go.Lib.count s [32]) s with
  | nil => exact absurd hs (splitK_ne _ _ _)
  | cons p ps => simp
theorem spl_count : ∀ (r cur : Bs), (spl cur r).length = r.count 32 + 1
  | [], cur => by simp [spl]
  | c :: r, cur => by
    rw [spl]
    by_cases e : c = 32
    · subst e; rw [if_pos rfl, List.length_cons, spl_count r []]; simp
    · rw [if_neg e, spl_count r, List.count_cons_of_ne (by simpa using e)]
/-- The library's pieces, as texts. -/
theorem splitB_spl (s : ByteArray) : Go.Lib.splitB ⟨#[32]⟩ 0 (Go.Lib.countB s ⟨#[32]⟩) s = (spl [] s.data.toList).map mk := by
  have h := Go.Lib.splitB_data ⟨#[32]⟩ 0 (Go.Lib.countB s ⟨#[32]⟩) s
  have h2 : (Go.Lib.splitB ⟨#[32]⟩ 0 (Go.Lib.countB s ⟨#[32]⟩) s).map (·.data.toList) = spl [] s.data.toList := by
    rw [h]; exact split_spl _
  rw [← h2, List.map_map]
  have e : (mk ∘ fun x : ByteArray => x.data.toList) = id := by funext x; exact mk_bs x
  rw [e, List.map_id]
theorem countB_spl (s : ByteArray) : Go.Lib.countB s ⟨#[32]⟩ + 1 = (spl [] s.data.toList).length := by
  rw [spl_count]; show Go.Lib.count s.data.toList [32] + 1 = _; rw [count_one]
end Go.Proofs.YtaghiefokmapmaaGreatDoor

/- Names: folds, Contains, ClashOf of the program. -/
set_option linter.unusedVariables false
namespace Go.Proofs.YtaghiefokmapmaaGreatDoor
open Go.RowKit
attribute [local go_sem] mk_toList
theorem eq_toList (a b : ByteArray) : (a.toList == b.toList) = (bs a == bs b) := by rw [ByteArray.toList_eq, ByteArray.toList_eq]

/-! ### plain: the first index -/
def idxIn (l : List ByteArray) (x : ByteArray) (r : Int) : Prop := if (l.any fun y => bs x == bs y) then 0 ≤ r else r < 0
def hasS (l : List ByteArray) (x : ByteArray) : Bool := l.any fun y => bs x == bs y
def NotYet (l : List ByteArray) (x : ByteArray) (k : Nat) : Prop := ∀ y ∈ l.take k, (bs x == bs y) = false
theorem NotYet.succ {l : List ByteArray} {x : ByteArray} {k : Nat} (h : NotYet l x k) (hk : k < l.length) (hx : (bs x == bs l[k]) = false) : NotYet l x (k + 1) := by
  intro y hy
  rw [List.take_succ_eq_append_getElem hk, List.mem_append, List.mem_singleton] at hy
  rcases hy with hy | rfl
  · exact h y hy
  · exact hx
theorem NotYet.none {l : List ByteArray} {x : ByteArray} {k : Nat} (h : NotYet l x k) (hk : ¬ k < l.length) : hasS l x = false := by
  unfold hasS; rw [List.any_eq_false]; intro y hy
  rw [h y (by rw [List.take_of_length_le (by omega)]; exact hy)]; simp
theorem hasS_at {l : List ByteArray} {x : ByteArray} {k : Nat} (hk : k < l.length) (hx : (bs x == bs l[k]) = true) : hasS l x = true := by
  unfold hasS; rw [List.any_eq_true]; exact ⟨l[k], by simp, hx⟩
def IndexR (l : List ByteArray) (x : ByteArray) (w : World) (e : Ending) (w' : World) : Prop := ∃ r : Int, e = .returned (.int .i64 r) ∧ (hasS l x = true → 0 ≤ r) ∧ (hasS l x = false → r = -1) ∧ w = w'

set_option maxHeartbeats 2000000 in
set_option maxRecDepth 100000 in
theorem IndexS_any (A : Option Addr) (c : Nat) (l : List ByteArray) (x : ByteArray) (w : World) (hs : Sl w encS 1 A l) (hl : l.length ≤ 16777216) :
    Calls Tryz.prog 173 #[.slice A l.length c, .string x] w (IndexR l x w) := by
  have HS := Lib.hid hs
  clear hs
  go_enter Tryz.func173, Tryz.ntmps173
  go_wp2
  go_loop [8] (fun i => ∃ k : Nat, k ≤ l.length ∧ i = .int .i64 k ∧ NotYet l x k) (fun i => l.length - (intOf i).toNat)
  case atStart => exact ⟨0, Nat.zero_le _, rfl, by intro y hy; simp at hy⟩
  case round =>
    obtain ⟨k, hk, rfl, hn⟩ := hrel
    by_cases hlt : k < l.length
    · obtain ⟨b, o, rfl, hc⟩ := HS.out.getS hlt
      cases hx : (x.toList == l[k].toList)
      · go_wp2
        go_round
        case rel => exact ⟨k + 1, by omega, by go_num, hn.succ hlt (by rw [← eq_toList]; exact hx)⟩
        case measure => simp [intOf]; omega
      · have H := Lib.hid (hasS_at hlt (by rw [← eq_toList]; exact hx))
        go_wp2
        go_ret
        exact ⟨_, rfl, (fun _ => by omega), (fun h => by rw [H.out] at h; cases h), rfl⟩
    · have H := Lib.hid (hn.none hlt)
      go_wp2
      go_ret
      exact ⟨_, rfl, (fun h => by rw [H.out] at h; cases h), (fun _ => rfl), rfl⟩
set_option maxHeartbeats 2000000 in
set_option maxRecDepth 100000 in
theorem ContainsS_any (A : Option Addr) (c : Nat) (l : List ByteArray) (x : ByteArray) (w : World) (hs : Sl w encS 1 A l) (hl : l.length ≤ 16777216) :
    Calls Tryz.prog 114 #[.slice A l.length c, .string x] w fun e w' => e = .returned (.bool (hasS l x)) ∧ w = w' := by
  have HS := Lib.hid hs
  clear hs
  go_enter Tryz.func114, Tryz.ntmps114
  go_wp2_with fail
  refine (IndexS_any _ _ _ _ _ HS.out hl).mono ?_
  rintro e w' ⟨r, rfl, h1, h2, rfl⟩
  have H1 := Lib.hid h1
  have H2 := Lib.hid h2
  clear h1 h2
  go_wp2
  go_ret
  refine ⟨ret_bool ?_, rfl⟩
  cases hh : hasS l x with
  | true => have := H1.out hh; simp; omega
  | false => have := H2.out hh; simp; omega

/-! ### folds -/
def folds (ss : List ByteArray) : List ByteArray := ss.map fun s => mk (foldName (bs s))
def allFold (ss : List ByteArray) : Bool := ss.all fun s => !(foldName (bs s)).isEmpty
theorem folds_take {ss : List ByteArray} {k : Nat} (h : k < ss.length) : folds (ss.take (k + 1)) = folds (ss.take k) ++ [mk (foldName (bs ss[k]))] := by
  unfold folds; rw [List.take_succ_eq_append_getElem h, List.map_append]; rfl
theorem folds_len (ss : List ByteArray) : (folds ss).length = ss.length := by simp [folds]
def FoldsR (ss : List ByteArray) (w : World) (e : Ending) (w' : World) : Prop :=
  ∃ v, e = .returned (.tuple #[v, .bool (allFold ss)]) ∧ Own w' w.heap.size 9 1 encS v (if allFold ss then folds ss else []) ∧ Below w.heap.size w w'

/-! ### clashes -/
/-- The first place before 'k' whose text is one before it; -1 if there is none. -/
def clashTo (fs : List ByteArray) : Nat → Int
  | 0 => -1
  | k + 1 => if 0 ≤ clashTo fs k then clashTo fs k else if hasS (fs.take k) (fs.getD k ⟨#[]⟩) then k else -1
def clashOf (ss : List ByteArray) : Int := if allFold ss then clashTo (folds ss) ss.length else -1
theorem clashTo_lt (fs : List ByteArray) : ∀ k, clashTo fs k < k ∧ -1 ≤ clashTo fs k
  | 0 => by simp [clashTo]
  | k + 1 => by
    have := clashTo_lt fs k
    unfold clashTo; split
    · omega
    · split <;> omega
theorem clashTo_no {fs : List ByteArray} {k : Nat} (h : clashTo fs k = -1) (hn : hasS (fs.take k) (fs.getD k ⟨#[]⟩) = false) : clashTo fs (k + 1) = -1 := by
  unfold clashTo; rw [if_neg (by omega), if_neg (by rw [hn]; simp)]
theorem clashTo_yes {fs : List ByteArray} {k : Nat} (h : clashTo fs k = -1) (hn : hasS (fs.take k) (fs.getD k ⟨#[]⟩) = true) : clashTo fs (k + 1) = k := by
  unfold clashTo; rw [if_neg (by omega), if_pos hn]
theorem clashTo_keep {fs : List ByteArray} {k : Nat} (h : 0 ≤ clashTo fs k) : clashTo fs (k + 1) = clashTo fs k := by
  rw [clashTo, if_pos h]
theorem clashTo_stays {fs : List ByteArray} {k : Nat} (h : 0 ≤ clashTo fs k) : ∀ n, clashTo fs (k + n) = clashTo fs k
  | 0 => rfl
  | n + 1 => by
    have ih := clashTo_stays h n
    rw [← Nat.add_assoc, clashTo_keep (by rw [ih]; exact h), ih]
theorem getD_at {fs : List ByteArray} {k : Nat} (h : k < fs.length) : fs.getD k ⟨#[]⟩ = fs[k] := by
  rw [List.getD_eq_getElem?_getD, List.getElem?_eq_getElem h]; rfl
theorem Sl.take {α : Type} {enc : α → List Value} {w : World} {size : Nat} {A : Option Addr} {l : List α} (h : Sl w enc size A l) (k : Nat) : Sl w enc size A (l.take k) := by
  intro hn
  obtain ⟨b, o, e, hc⟩ := h (by rw [List.length_take] at hn; omega)
  refine ⟨b, o, e, fun j u hu => hc j u ?_⟩
  have hf : flat enc l = flat enc (l.take k) ++ flat enc (l.drop k) := by rw [← flat_append, List.take_append_drop]
  rw [hf, List.getElem?_append_left (List.getElem?_eq_some_iff.1 hu).1]; exact hu
end Go.Proofs.YtaghiefokmapmaaGreatDoor
