/- Pieces: copies, sizes, comparisons and marks of their slices, as laws make them. Written by structgen.py. -/
import Derived.Test.YtjadgjlidejjpaaDoorSt
set_option linter.unusedVariables false
namespace Go.Proofs.YtjadgjlidejjpaaDoor
open Go.RowKit

theorem encP_info : (Tryd.prog.info? 38).map (fun i => (i.zero, i.size, i.bytes)) = some (some (.agg #[.int .i64 0, .string ⟨#[]⟩]), 2, 24) := pc_info
set_option maxHeartbeats 4000000 in
set_option maxRecDepth 100000 in
theorem toPiece1 (a0 : Int) (a1 : ByteArray) (w : World) :
    Calls Tryd.prog 16 #[.agg #[.int .i64 a0, .string a1]] w fun e w' => e = .returned (.agg #[.int .i64 a0, .string a1]) ∧ Below w.heap.size w w' := by
  go_enter Tryd.func16, Tryd.ntmps16
  go_wp2
  exact bodyPost_ret (v := .agg #[.int .i64 a0, .string a1]) (by simp [results, Tryd.results16, go_sem]) rfl ⟨rfl, below3 _ _ _⟩
set_option maxHeartbeats 4000000 in
set_option maxRecDepth 100000 in
theorem toPieceS_any (A : Option Addr) (c : Nat) (l : List Pc) (w : World) (hs : Sl w encP 2 A l) (hl : l.length ≤ 16777216) :
    Calls Tryd.prog 6 #[.slice A l.length c] w (OwnRes 38 2 encP l w) := by
  obtain ⟨i0, hi0, hz0, hz1, hz2⟩ := info_parts encP_info
  have hmk := make_row (P := Tryd.prog) 26 38 i0 _ Tryd.underlying26 hi0 hz0 l.length hl (by omega)
  rw [hz1] at hmk
  have hfl := fun W : World => Filled.made W (Value.agg #[.int .i64 0, .string ⟨#[]⟩]).cells (l.length * 2) 38
  have HFL := Lib.hid hfl
  have HS := Lib.hid hs
  clear hs hfl hi0 hz0 hz1 hz2
  generalize madeCells (Value.agg #[.int .i64 0, .string ⟨#[]⟩]).cells (l.length * 2) = M at *
  go_enter Tryd.func6, Tryd.ntmps6
  go_wp2
  clear hmk
  go_loopw [4] (fun i wr => ∃ (k : Nat), k ≤ l.length ∧ i = .int .i64 k ∧ Filled wr w.heap.size (l.length * 2) 38 (flat encP (l.take k)) ∧ Below w.heap.size w wr) (fun i _ => l.length - (intOf i).toNat)
  case atStart => exact ⟨0, Nat.zero_le _, rfl, HFL.out w, (Below.refl _ _).alloc (Nat.le_refl _) _⟩
  case round =>
    obtain ⟨k, hk, rfl, hf, hb⟩ := hrel
    by_cases hlt : k < l.length
    · obtain ⟨b, o, rfl, hc0, hc1⟩ := (HS.out.below hb).getP hlt
      have hlen : (flat encP (l.take k)).length = k * 2 := by rw [flat_length (size := 2) (fun _ => rfl), List.length_take]; omega
      have HF := Lib.hid hf
      have HB := Lib.hid hb
      clear hf hb
      have hsucc : flat encP (l.take (k + 1)) = flat encP (l.take k) ++ encP l[k] := by rw [List.take_succ_eq_append_getElem hlt, flat_snoc]
      have HSC := Lib.hid hsucc
      have HLN := Lib.hid hlen
      clear hsucc hlen
      generalize l[k] = p at *
      go_wp2_with fail
      refine (toPiece1 _ _ _).mono ?_
      rintro e w2 ⟨rfl, hb2⟩
      have hf2 := HF.out.below hb2
      have HB2 := Lib.hid (HB.out.trans (hb2.mono HB.out.size))
      clear hb2
      have HST := Lib.hid (hf2.stores (encP p) (by rw [HLN.out]; simp [encP]; omega))
      obtain ⟨u0, hu0⟩ := hf2.cell (j := k * 2) (by omega)
      have hr0 := hf2.free (k * 2)
      obtain ⟨u1, hu1⟩ := hf2.cell (j := k * 2 + 1) (by omega)
      have hr1 := hf2.free (k * 2 + 1)
      clear hf2
      go_wp2
      go_roundw
      case rel => exact ⟨k + 1, by omega, by go_num, by rw [HSC.out]; have h := HST.out; rw [HLN.out] at h; exact h, Below.setCell (Below.setCell (HB2.out) (Nat.le_refl _) _) (Nat.le_refl _) _⟩
      case measure => simp [intOf]; omega
    · go_wp2
      go_ret
      rw [List.take_of_length_le (by omega)] at hf
      exact ⟨_, rfl, hf.own (fun _ => rfl) (Nat.le_refl _) (by unfold maxLen; omega), hb⟩
def FitsPiece (l : List Pc) : Prop := ∀ p ∈ l, p.2.size ≤ 1048576
def SizedPiece (l : List Pc) (left : Int) (w : World) (e : Ending) (w' : World) : Prop :=
  ∃ r : Int, e = .returned (.int .i64 r) ∧ r ≤ left ∧ (0 ≤ r → l.length ≤ 1048576 ∧ FitsPiece l) ∧ Below w.heap.size w w'
set_option maxHeartbeats 4000000 in
set_option maxRecDepth 100000 in
theorem szPiece1 (a0 : Int) (a1 : ByteArray) (left : Int) (w : World) (hs : a1.size ≤ maxLen) (h0 : 0 ≤ left) (h1 : left ≤ 1048576) :
    Calls Tryd.prog 13 #[.agg #[.int .i64 a0, .string a1], .int .i64 left] w fun e w' => e = .returned (.int .i64 (szT left a1.size)) ∧ Below w.heap.size w w' := by
  unfold maxLen at hs
  by_cases h : left < a1.size
  · have e : szT left a1.size = -1 := by unfold szT; rw [if_pos h]
    rw [e]; clear e
    go_enter Tryd.func13, Tryd.ntmps13
    go_wp2
    go_ret
    exact ⟨rfl, below1 _ 0⟩
  · have e : szT left a1.size = left - a1.size := by unfold szT; rw [if_neg h]
    rw [e]; clear e
    go_enter Tryd.func13, Tryd.ntmps13
    go_wp2
    go_ret
    exact ⟨rfl, below1 _ 0⟩
set_option maxHeartbeats 4000000 in
set_option maxRecDepth 100000 in
theorem szPieceS_any (A : Option Addr) (c : Nat) (l : List Pc) (left : Int) (w : World) (hs : Sl w encP 2 A l) (hl : l.length ≤ maxLen) (hm : ∀ p ∈ l, p.2.size ≤ maxLen) (h0 : 0 ≤ left) (h1 : left ≤ 1048576) :
    Calls Tryd.prog 4 #[.slice A l.length c, .int .i64 left] w (SizedPiece l left w) := by
  have HS := Lib.hid hs
  have HM := Lib.hid hm
  unfold maxLen at hl
  clear hs hm
  by_cases hlen : (l.length : Int) ≤ left
  · go_enter Tryd.func4, Tryd.ntmps4
    go_wp2
    go_loopw [1, 5] (fun v i wr => ∃ (k : Nat) (L : Int), k ≤ l.length ∧ i = .int .i64 k ∧ v = .int .i64 L ∧ 0 ≤ L ∧ L ≤ left ∧ Hid (FitsPiece (l.take k)) ∧ Below w.heap.size w wr) (fun _ i _ => l.length - (intOf i).toNat)
    case atStart => exact ⟨0, left - l.length, Nat.zero_le _, rfl, rfl, by omega, by omega, (by intro p hp; simp at hp), Below.refl _ _⟩
    case round =>
      obtain ⟨k, L, hk, rfl, rfl, hL0, hL1, hft, hb⟩ := hrel
      by_cases hlt : k < l.length
      · obtain ⟨b, o, rfl, hc0, hc1⟩ := (HS.out.below hb).getP hlt
        have hms := HM.out l[k] (by simp)
        have hms2 := hms
        unfold maxLen at hms2
        have hnext : l[k].2.size ≤ 1048576 → FitsPiece (l.take (k + 1)) := fun h p hp => by
          rw [List.take_succ_eq_append_getElem hlt, List.mem_append, List.mem_singleton] at hp
          rcases hp with hp | rfl
          · exact hft.out p hp
          · exact h
        have HN := Lib.hid hnext
        have HB := Lib.hid hb
        clear hnext hb
        generalize l[k] = p at *
        have hz := szPiece1 p.1 p.2 L
        by_cases hsz : (p.2.size : Int) ≤ L
        · rw [show szT L p.2.size = L - p.2.size from by unfold szT; rw [if_neg (by omega)]] at hz
          have HZ := Lib.hid hz
          clear hz
          go_wp2_with fail
          refine (HZ.out _ hms hL0 (by omega)).mono ?_
          rintro e w2 ⟨rfl, hb2⟩
          have HB2 := Lib.hid (Below_then HB.out hb2 (Nat.le_refl _))
          clear hb2
          go_wp2
          go_roundw
          case rel => exact ⟨k + 1, _, by omega, by go_num, rfl, by omega, by omega, HN.out (by omega), HB2.out⟩
          case measure => simp [intOf]; omega
        · rw [show szT L p.2.size = -1 from by unfold szT; rw [if_pos (by omega)]] at hz
          have HZ := Lib.hid hz
          clear hz
          go_wp2_with fail
          refine (HZ.out _ hms hL0 (by omega)).mono ?_
          rintro e w2 ⟨rfl, hb2⟩
          have HB2 := Lib.hid (Below_then HB.out hb2 (Nat.le_refl _))
          clear hb2
          go_wp2
          go_ret
          exact ⟨-1, rfl, by omega, fun h => absurd h (by omega), HB2.out⟩
      · go_wp2
        go_ret
        refine ⟨L, rfl, hL1, fun _ => ⟨by omega, ?_⟩, hb⟩
        have h := hft.out; rwa [List.take_of_length_le (by omega)] at h
  · go_enter Tryd.func4, Tryd.ntmps4
    go_wp2
    go_ret
    exact ⟨-1, rfl, by omega, fun h => absurd h (by omega), Below.refl _ _⟩
set_option maxHeartbeats 4000000 in
set_option maxRecDepth 100000 in
theorem eqPiece1 (a0 : Int) (a1 : ByteArray) (w : World) :
    Calls Tryd.prog 19 #[.agg #[.int .i64 a0, .string a1], .agg #[.int .i64 a0, .string a1]] w fun e w' => e = .returned (.bool true) ∧ Below w.heap.size w w' := by
  go_enter Tryd.func19, Tryd.ntmps19
  go_wp2
  go_ret
  exact ⟨rfl, ((Below.refl _ _).alloc (Nat.le_refl _) _).alloc (by simp) _⟩
set_option maxHeartbeats 4000000 in
set_option maxRecDepth 100000 in
theorem eqPieceS_same (A B : Option Addr) (c d : Nat) (l : List Pc) (w : World) (ha : Sl w encP 2 A l) (hb : Sl w encP 2 B l) (hl : l.length ≤ 16777216) :
    Calls Tryd.prog 9 #[.slice A l.length c, .slice B l.length d] w fun e w' => e = .returned (.bool true) ∧ Below w.heap.size w w' := by
  have HA := Lib.hid ha
  have HB := Lib.hid hb
  clear ha hb
  go_enter Tryd.func9, Tryd.ntmps9
  go_wp2
  go_loopw [5] (fun i wr => ∃ (k : Nat), k ≤ l.length ∧ i = .int .i64 k ∧ Below w.heap.size w wr) (fun i _ => l.length - (intOf i).toNat)
  case atStart => exact ⟨0, Nat.zero_le _, rfl, Below.refl _ _⟩
  case round =>
    obtain ⟨k, hk, rfl, hbw⟩ := hrel
    have HW := Lib.hid hbw
    clear hbw
    by_cases hlt : k < l.length
    · obtain ⟨b1, o1, rfl, hc0, hc1⟩ := (HA.out.below HW.out).getP hlt
      obtain ⟨b2, o2, rfl, hd0, hd1⟩ := (HB.out.below HW.out).getP hlt
      generalize l[k] = p at *
      replace hc0 := far_cell hc0
      replace hc1 := far_cell hc1
      replace hd0 := far_cell hd0
      replace hd1 := far_cell hd1
      go_wp2
      refine wp_region_far (by kernel_rfl) (by kernel_rfl) ?_
      repeat (go_big_quiet_step ((go_at_call 19; exact far_call (eqPiece1 _ _ _))))
      refine wpQuiet_nil ?_
      intro _ hwF
      obtain ⟨pF, hwF⟩ := hwF
      subst hwF
      go_wp2
      go_roundw
      case rel => exact ⟨k + 1, by omega, by go_num, Below_then HW.out (far_below _ _) (Nat.le_refl _)⟩
      case measure => simp [intOf]; omega
    · go_wp2
      go_ret
      exact ⟨rfl, HW.out⟩
def markPieceL (k n : Nat) : List Pc := (List.range n).map fun j => (((k + 2 * j + 0 : Nat) : Int), mk (markT (k + 2 * j + 1)))
theorem markPieceL_len (k n : Nat) : (markPieceL k n).length = n := by simp [markPieceL]
theorem markPieceL_succ (k n : Nat) : markPieceL k (n + 1) = markPieceL k n ++ [(((k + 2 * n + 0 : Nat) : Int), mk (markT (k + 2 * n + 1)))] := by simp [markPieceL, List.range_succ]
theorem markPieceL_at {k n j : Nat} (h : j < n) : (markPieceL k n)[j]'(by rw [markPieceL_len]; exact h) = (((k + 2 * j + 0 : Nat) : Int), mk (markT (k + 2 * j + 1))) := by simp [markPieceL]
set_option maxHeartbeats 4000000 in
set_option maxRecDepth 100000 in
theorem markPieceS_any (base : Nat) (v : Value) (l : List Pc) (k : Nat) (w : World) (h : Own w base 38 2 encP v l) (hl : l.length ≤ 16777216) (hk : k ≤ 100000000) :
    Calls Tryd.prog 10 #[v, .int .i64 k] w (Marked 38 2 encP base v (markPieceL k l.length) (k + 2 * l.length) w) := by
  by_cases h0 : 0 < l.length
  · obtain ⟨g, cap, rfl, hg, hlc, hcm, hf⟩ := h.row h0
    have HF := Lib.hid hf
    have hcm' := hcm
    unfold maxLen at hcm'
    clear hf h
    go_enter Tryd.func10, Tryd.ntmps10
    go_wp2
    go_loopw [1, 5] (fun sk si wr => ∃ (j K : Nat), j ≤ l.length ∧ si = .int .i64 (j : Int) ∧ sk = .int .i64 (K : Int) ∧ Hid (K = k + 2 * j) ∧ K ≤ 300000000 ∧ Filled wr g (cap * 2) 38 (flat encP (markPieceL k j)) ∧ Grew (.slice (some ⟨g, 0, none⟩) l.length cap) w wr) (fun _ si _ => l.length - (intOf si).toNat)
    case atStart => exact ⟨0, k, Nat.zero_le _, rfl, rfl, rfl, by omega, HF.out, Grew.refl _ _⟩
    case round =>
      obtain ⟨j, K, hj, rfl, rfl, hK, hKb, hf, hg2⟩ := hrel
      by_cases hlt : j < l.length
      · have hlen : (flat encP (markPieceL k j)).length = j * 2 := by rw [flat_length (size := 2) (fun _ => rfl), markPieceL_len]
        have hsucc : flat encP (markPieceL k (j + 1)) = flat encP (markPieceL k j) ++ [Value.int .i64 ((K + 0 : Nat) : Int), .string (mk (markT (K + 1)))] := by
          rw [markPieceL_succ, flat_snoc]; have := hK.out; subst this; rfl
        have HSC := Lib.hid hsucc
        have HLN := Lib.hid hlen
        have HK := hK
        have HF0 := Lib.hid hf
        have HG0 := Lib.hid hg2
        clear hsucc hlen hK hf hg2
        generalize flat encP (markPieceL k j) = D at *
        obtain ⟨u0, hu0⟩ := HF0.out.cell (j := j * 2) (by omega)
        have hr0 := HF0.out.free (j * 2)
        go_wp2_with fail
        refine (markText_at _ (K + 1) (by omega) _ (by omega)).mono ?_
        rintro e w2 ⟨rfl, hb2⟩
        have hst1 := Filled.stores_of [Value.int .i64 ((K + 0 : Nat) : Int)] (j := j * 2) HF0.out (by simp [HLN.out]) (by simp; omega)
        have HF2 := Lib.hid (hst1.below hb2)
        have HG2 := Lib.hid ((Grew.set (HG0.out) rfl _).trans (Grew.below hb2))
        clear hb2 hu0 hr0 hst1
        obtain ⟨u1, hu1⟩ := HF2.out.cell (j := j * 2 + 1) (by omega)
        have hr1 := HF2.out.free (j * 2 + 1)
        have HST := Lib.hid (Filled.stores_of [.string (mk (markT (K + 1)))] (j := j * 2 + 1) HF2.out (by simp [HLN.out]) (by simp; omega))
        go_wp2
        go_roundw
        case rel => exact ⟨j + 1, K + 2, by omega, by go_num, by go_num, by show _ = _; rw [HK.out]; omega, by have := HK.out; omega, by rw [HSC.out]; have h := HST.out; simpa [setAll, Nat.add_assoc, Int.add_assoc] using h, Grew.set (HG2.out) rfl _⟩
        case measure => simp [intOf]; omega
      · have hjl : j = l.length := by omega
        subst hjl
        have HG2 := Lib.hid hg2
        have HF2 := Lib.hid hf
        clear hg2 hf
        go_wp2
        go_ret
        have ho := HF2.out.ownc (base := base) (fun _ => rfl) hg hcm (by rw [markPieceL_len]; exact hlc)
        rw [markPieceL_len] at ho
        exact ⟨ret_int (by rw [hK.out]), ho, HG2.out⟩
  · have hz : l.length = 0 := by omega
    obtain ⟨A, c, hv, _, _, _⟩ := h.sl
    subst hv
    rw [hz] at h ⊢
    have H := Lib.hid h
    clear h
    go_enter Tryd.func10, Tryd.ntmps10
    go_wp2
    go_loopw [1, 5] (fun sk si wr => si = .int .i64 0 ∧ sk = .int .i64 (k : Int) ∧ w = wr) (fun _ _ _ => 0)
    case atStart => exact ⟨rfl, rfl, rfl⟩
    case round =>
      obtain ⟨rfl, rfl, rfl⟩ := hrel
      go_wp2
      go_ret
      exact ⟨rfl, H.out.empty hz (by rw [markPieceL_len]), Grew.refl _ _⟩
/-- What is told of a slice of such structs that came in. -/
def PiecesIn (w : World) (A : Option Addr) (n c : Nat) : Prop := ∃ l : List Pc, l.length = n ∧ n ≤ c ∧ c ≤ maxLen ∧ Sl w encP 2 A l ∧ ∀ p ∈ l, p.2.size ≤ maxLen
end Go.Proofs.YtjadgjlidejjpaaDoor
