/- Written by merge.py: SQuota, L8a, Ki, L1, Open6, EOverQuotas, Door, Tz. -/
import Derived.Test.YtaghiefokmapmaaGreatDoorRows
import Derived.Handed
import Derived.HandedShaped
import Derived.Lay
import Derived.LaidMore
import Derived.SevenTiedAt
import Derived.Stop.Joined
import Derived.Shelf.Vars
import Derived.LaidSub
import Derived.OpenShut
import Derived.Test.YtaghiefokmapmaaGreatDoorMgExactOverQuotas6
/- Quotas: copies, sizes, comparisons and marks of their slices, as laws make them. Written by structgen.py. -/
set_option linter.unusedVariables false
namespace Go.Proofs.YtaghiefokmapmaaGreatDoor
open Go.RowKit

theorem encQ_info : (Tryz.prog.info? 76).map (fun i => (i.zero, i.size, i.bytes)) = some (some (.agg #[.string ⟨#[]⟩, .int .i64 0]), 2, 24) := by kernel_rfl
set_option maxHeartbeats 4000000 in
set_option maxRecDepth 100000 in
theorem toQuota1 (a0 : ByteArray) (a1 : Int) (w : World) :
    Calls Tryz.prog 71 #[.agg #[.string a0, .int .i64 a1]] w fun e w' => e = .returned (.agg #[.string a0, .int .i64 a1]) ∧ Below w.heap.size w w' := by
  go_enter Tryz.func71, Tryz.ntmps71
  go_wp2
  exact bodyPost_ret (v := .agg #[.string a0, .int .i64 a1]) (by simp [results, Tryz.results71, go_sem]) rfl ⟨rfl, below3 _ _ _⟩
set_option maxHeartbeats 4000000 in
set_option maxRecDepth 100000 in
theorem toQuotaS_any (A : Option Addr) (c : Nat) (l : List Qt) (w : World) (hs : Sl w encQ 2 A l) (hl : l.length ≤ 16777216) :
    Calls Tryz.prog 19 #[.slice A l.length c] w (OwnRes 76 2 encQ l w) := by
  obtain ⟨i0, hi0, hz0, hz1, hz2⟩ := info_parts encQ_info
  have hmk := make_row (P := Tryz.prog) 30 76 i0 _ Tryz.underlying30 hi0 hz0 l.length hl (by omega)
  rw [hz1] at hmk
  have hfl := fun W : World => Filled.made W (Value.agg #[.string ⟨#[]⟩, .int .i64 0]).cells (l.length * 2) 76
  have HFL := Lib.hid hfl
  have HS := Lib.hid hs
  clear hs hfl hi0 hz0 hz1 hz2
  generalize madeCells (Value.agg #[.string ⟨#[]⟩, .int .i64 0]).cells (l.length * 2) = M at *
  go_enter Tryz.func19, Tryz.ntmps19
  go_wp2
  clear hmk
  go_loopw [4] (fun i wr => ∃ (k : Nat), k ≤ l.length ∧ i = .int .i64 k ∧ Filled wr w.heap.size (l.length * 2) 76 (flat encQ (l.take k)) ∧ Below w.heap.size w wr) (fun i _ => l.length - (intOf i).toNat)
  case atStart => exact ⟨0, Nat.zero_le _, rfl, HFL.out w, (Below.refl _ _).alloc (Nat.le_refl _) _⟩
  case round =>
    obtain ⟨k, hk, rfl, hf, hb⟩ := hrel
    by_cases hlt : k < l.length
    · obtain ⟨b, o, rfl, hc0, hc1⟩ := (HS.out.below hb).getQ hlt
      have hlen : (flat encQ (l.take k)).length = k * 2 := by rw [flat_length (size := 2) (fun _ => rfl), List.length_take]; omega
      have HF := Lib.hid hf
      have HB := Lib.hid hb
      clear hf hb
      have hsucc : flat encQ (l.take (k + 1)) = flat encQ (l.take k) ++ encQ l[k] := by rw [List.take_succ_eq_append_getElem hlt, flat_snoc]
      have HSC := Lib.hid hsucc
      have HLN := Lib.hid hlen
      clear hsucc hlen
      generalize l[k] = p at *
      go_wp2_with fail
      refine (toQuota1 _ _ _).mono ?_
      rintro e w2 ⟨rfl, hb2⟩
      have hf2 := HF.out.below hb2
      have HB2 := Lib.hid (HB.out.trans (hb2.mono HB.out.size))
      clear hb2
      have HST := Lib.hid (hf2.stores (encQ p) (by rw [HLN.out]; simp [encQ]; omega))
      obtain ⟨u0, hu0⟩ := hf2.cell (j := k * 2) (by omega)
      have hr0 := hf2.free (k * 2)
      obtain ⟨u1, hu1⟩ := hf2.cell (j := k * 2 + 1) (by omega)
      have hr1 := hf2.free (k * 2 + 1)
      clear hf2
      go_wp2
      go_roundw
      case rel => exact ⟨k + 1, by omega, by go_num, by rw [HSC.out]; have h := HST.out; rw [HLN.out] at h; exact h, Below.setCell (Below.setCell (HB2.out) (Nat.le_refl _) _) (Nat.le_refl _) _⟩
      case measure => simp [intOf]; omega
    · go_wp2
      go_ret
      rw [List.take_of_length_le (by omega)] at hf
      exact ⟨_, rfl, hf.own (fun _ => rfl) (Nat.le_refl _) (by unfold maxLen; omega), hb⟩
def FitsQuota (l : List Qt) : Prop := ∀ p ∈ l, p.1.size ≤ 1048576
def SizedQuota (l : List Qt) (left : Int) (w : World) (e : Ending) (w' : World) : Prop :=
  ∃ r : Int, e = .returned (.int .i64 r) ∧ r ≤ left ∧ (0 ≤ r → l.length ≤ 1048576 ∧ FitsQuota l) ∧ Below w.heap.size w w'
set_option maxHeartbeats 4000000 in
set_option maxRecDepth 100000 in
theorem szQuota1 (a0 : ByteArray) (a1 : Int) (left : Int) (w : World) (hs : a0.size ≤ maxLen) (h0 : 0 ≤ left) (h1 : left ≤ 1048576) :
    Calls Tryz.prog 67 #[.agg #[.string a0, .int .i64 a1], .int .i64 left] w fun e w' => e = .returned (.int .i64 (szT left a0.size)) ∧ Below w.heap.size w w' := by
  unfold maxLen at hs
  by_cases h : left < a0.size
  · have e : szT left a0.size = -1 := by unfold szT; rw [if_pos h]
    rw [e]; clear e
    go_enter Tryz.func67, Tryz.ntmps67
    go_wp2
    go_ret
    exact ⟨rfl, below1 _ 0⟩
  · have e : szT left a0.size = left - a0.size := by unfold szT; rw [if_neg h]
    rw [e]; clear e
    go_enter Tryz.func67, Tryz.ntmps67
    go_wp2
    go_ret
    exact ⟨rfl, below1 _ 0⟩
set_option maxHeartbeats 4000000 in
set_option maxRecDepth 100000 in
theorem szQuotaS_any (A : Option Addr) (c : Nat) (l : List Qt) (left : Int) (w : World) (hs : Sl w encQ 2 A l) (hl : l.length ≤ maxLen) (hm : ∀ p ∈ l, p.1.size ≤ maxLen) (h0 : 0 ≤ left) (h1 : left ≤ 1048576) :
    Calls Tryz.prog 16 #[.slice A l.length c, .int .i64 left] w (SizedQuota l left w) := by
  have HS := Lib.hid hs
  have HM := Lib.hid hm
  unfold maxLen at hl
  clear hs hm
  by_cases hlen : (l.length : Int) ≤ left
  · go_enter Tryz.func16, Tryz.ntmps16
    go_wp2
    go_loopw [1, 5] (fun v i wr => ∃ (k : Nat) (L : Int), k ≤ l.length ∧ i = .int .i64 k ∧ v = .int .i64 L ∧ 0 ≤ L ∧ L ≤ left ∧ Hid (FitsQuota (l.take k)) ∧ Below w.heap.size w wr) (fun _ i _ => l.length - (intOf i).toNat)
    case atStart => exact ⟨0, left - l.length, Nat.zero_le _, rfl, rfl, by omega, by omega, (by intro p hp; simp at hp), Below.refl _ _⟩
    case round =>
      obtain ⟨k, L, hk, rfl, rfl, hL0, hL1, hft, hb⟩ := hrel
      by_cases hlt : k < l.length
      · obtain ⟨b, o, rfl, hc0, hc1⟩ := (HS.out.below hb).getQ hlt
        have hms := HM.out l[k] (by simp)
        have hms2 := hms
        unfold maxLen at hms2
        have hnext : l[k].1.size ≤ 1048576 → FitsQuota (l.take (k + 1)) := fun h p hp => by
          rw [List.take_succ_eq_append_getElem hlt, List.mem_append, List.mem_singleton] at hp
          rcases hp with hp | rfl
          · exact hft.out p hp
          · exact h
        have HN := Lib.hid hnext
        have HB := Lib.hid hb
        clear hnext hb
        generalize l[k] = p at *
        have hz := szQuota1 p.1 p.2 L
        by_cases hsz : (p.1.size : Int) ≤ L
        · rw [show szT L p.1.size = L - p.1.size from by unfold szT; rw [if_neg (by omega)]] at hz
          have HZ := Lib.hid hz
          clear hz
          go_wp2_with fail
          refine (HZ.out _ hms hL0 (by omega)).mono ?_
          rintro e w2 ⟨rfl, hb2⟩
          have HB2 := Lib.hid (Below_then HB.out hb2 (Nat.le_refl _))
          clear hb2
          go_wp2
          go_roundw
          case rel => exact ⟨k + 1, _, by omega, by go_num, rfl, by omega, by omega, HN.out (by omega), HB2.out⟩
          case measure => simp [intOf]; omega
        · rw [show szT L p.1.size = -1 from by unfold szT; rw [if_pos (by omega)]] at hz
          have HZ := Lib.hid hz
          clear hz
          go_wp2_with fail
          refine (HZ.out _ hms hL0 (by omega)).mono ?_
          rintro e w2 ⟨rfl, hb2⟩
          have HB2 := Lib.hid (Below_then HB.out hb2 (Nat.le_refl _))
          clear hb2
          go_wp2
          go_ret
          exact ⟨-1, rfl, by omega, fun h => absurd h (by omega), HB2.out⟩
      · go_wp2
        go_ret
        refine ⟨L, rfl, hL1, fun _ => ⟨by omega, ?_⟩, hb⟩
        have h := hft.out; rwa [List.take_of_length_le (by omega)] at h
  · go_enter Tryz.func16, Tryz.ntmps16
    go_wp2
    go_ret
    exact ⟨-1, rfl, by omega, fun h => absurd h (by omega), Below.refl _ _⟩
set_option maxHeartbeats 4000000 in
set_option maxRecDepth 100000 in
theorem eqQuota1 (a0 : ByteArray) (a1 : Int) (w : World) :
    Calls Tryz.prog 73 #[.agg #[.string a0, .int .i64 a1], .agg #[.string a0, .int .i64 a1]] w fun e w' => e = .returned (.bool true) ∧ Below w.heap.size w w' := by
  go_enter Tryz.func73, Tryz.ntmps73
  go_wp2
  go_ret
  exact ⟨rfl, ((Below.refl _ _).alloc (Nat.le_refl _) _).alloc (by simp) _⟩
set_option maxHeartbeats 4000000 in
set_option maxRecDepth 100000 in
theorem eqQuotaS_same (A B : Option Addr) (c d : Nat) (l : List Qt) (w : World) (ha : Sl w encQ 2 A l) (hb : Sl w encQ 2 B l) (hl : l.length ≤ 16777216) :
    Calls Tryz.prog 23 #[.slice A l.length c, .slice B l.length d] w fun e w' => e = .returned (.bool true) ∧ Below w.heap.size w w' := by
  have HA := Lib.hid ha
  have HB := Lib.hid hb
  clear ha hb
  go_enter Tryz.func23, Tryz.ntmps23
  go_wp2
  go_loopw [5] (fun i wr => ∃ (k : Nat), k ≤ l.length ∧ i = .int .i64 k ∧ Below w.heap.size w wr) (fun i _ => l.length - (intOf i).toNat)
  case atStart => exact ⟨0, Nat.zero_le _, rfl, Below.refl _ _⟩
  case round =>
    obtain ⟨k, hk, rfl, hbw⟩ := hrel
    have HW := Lib.hid hbw
    clear hbw
    by_cases hlt : k < l.length
    · obtain ⟨b1, o1, rfl, hc0, hc1⟩ := (HA.out.below HW.out).getQ hlt
      obtain ⟨b2, o2, rfl, hd0, hd1⟩ := (HB.out.below HW.out).getQ hlt
      generalize l[k] = p at *
      replace hc0 := far_cell hc0
      replace hc1 := far_cell hc1
      replace hd0 := far_cell hd0
      replace hd1 := far_cell hd1
      go_wp2
      refine wp_region_far (by kernel_rfl) (by kernel_rfl) ?_
      repeat (go_big_quiet_step ((go_at_call 73; exact far_call (eqQuota1 _ _ _))))
      refine wpQuiet_nil ?_
      intro _ hwF
      obtain ⟨pF, hwF⟩ := hwF
      subst hwF
      go_wp2
      go_roundw
      case rel => exact ⟨k + 1, by omega, by go_num, Below_then HW.out (far_below _ _) (Nat.le_refl _)⟩
      case measure => simp [intOf]; omega
    · go_wp2
      go_ret
      exact ⟨rfl, HW.out⟩
def markQuotaL (k n : Nat) : List Qt := (List.range n).map fun j => (mk (markT (k + 2 * j + 0)), ((k + 2 * j + 1 : Nat) : Int))
theorem markQuotaL_len (k n : Nat) : (markQuotaL k n).length = n := by simp [markQuotaL]
theorem markQuotaL_succ (k n : Nat) : markQuotaL k (n + 1) = markQuotaL k n ++ [(mk (markT (k + 2 * n + 0)), ((k + 2 * n + 1 : Nat) : Int))] := by simp [markQuotaL, List.range_succ]
theorem markQuotaL_at {k n j : Nat} (h : j < n) : (markQuotaL k n)[j]'(by rw [markQuotaL_len]; exact h) = (mk (markT (k + 2 * j + 0)), ((k + 2 * j + 1 : Nat) : Int)) := by simp [markQuotaL]
set_option maxHeartbeats 4000000 in
set_option maxRecDepth 100000 in
theorem markQuotaS_any (base : Nat) (v : Value) (l : List Qt) (k : Nat) (w : World) (h : Own w base 76 2 encQ v l) (hl : l.length ≤ 16777216) (hk : k ≤ 100000000) :
    Calls Tryz.prog 25 #[v, .int .i64 k] w (Marked 76 2 encQ base v (markQuotaL k l.length) (k + 2 * l.length) w) := by
  by_cases h0 : 0 < l.length
  · obtain ⟨g, cap, rfl, hg, hlc, hcm, hf⟩ := h.row h0
    have HF := Lib.hid hf
    have hcm' := hcm
    unfold maxLen at hcm'
    clear hf h
    go_enter Tryz.func25, Tryz.ntmps25
    go_wp2
    go_loopw [1, 5] (fun sk si wr => ∃ (j K : Nat), j ≤ l.length ∧ si = .int .i64 (j : Int) ∧ sk = .int .i64 (K : Int) ∧ Hid (K = k + 2 * j) ∧ K ≤ 300000000 ∧ Filled wr g (cap * 2) 76 (flat encQ (markQuotaL k j)) ∧ Grew (.slice (some ⟨g, 0, none⟩) l.length cap) w wr) (fun _ si _ => l.length - (intOf si).toNat)
    case atStart => exact ⟨0, k, Nat.zero_le _, rfl, rfl, rfl, by omega, HF.out, Grew.refl _ _⟩
    case round =>
      obtain ⟨j, K, hj, rfl, rfl, hK, hKb, hf, hg2⟩ := hrel
      by_cases hlt : j < l.length
      · have hlen : (flat encQ (markQuotaL k j)).length = j * 2 := by rw [flat_length (size := 2) (fun _ => rfl), markQuotaL_len]
        have hsucc : flat encQ (markQuotaL k (j + 1)) = flat encQ (markQuotaL k j) ++ [.string (mk (markT (K + 0))), Value.int .i64 ((K + 1 : Nat) : Int)] := by
          rw [markQuotaL_succ, flat_snoc]; have := hK.out; subst this; rfl
        have HSC := Lib.hid hsucc
        have HLN := Lib.hid hlen
        have HK := hK
        have HF0 := Lib.hid hf
        have HG0 := Lib.hid hg2
        clear hsucc hlen hK hf hg2
        generalize flat encQ (markQuotaL k j) = D at *
        go_wp2_with fail
        refine (markText_at _ (K + 0) (by omega) _ (by omega)).mono ?_
        rintro e w1 ⟨rfl, hb1⟩
        have HF1 := Lib.hid (HF0.out.below hb1)
        have HG1 := Lib.hid (HG0.out.trans (Grew.below hb1))
        clear hb1 
        obtain ⟨u0, hu0⟩ := HF1.out.cell (j := j * 2) (by omega)
        have hr0 := HF1.out.free (j * 2)
        obtain ⟨u1, hu1⟩ := HF1.out.cell (j := j * 2 + 1) (by omega)
        have hr1 := HF1.out.free (j * 2 + 1)
        have HST := Lib.hid (Filled.stores_of [.string (mk (markT (K + 0))), Value.int .i64 ((K + 1 : Nat) : Int)] (j := j * 2) HF1.out (by simp [HLN.out]) (by simp; omega))
        go_wp2
        go_roundw
        case rel => exact ⟨j + 1, K + 2, by omega, by go_num, by go_num, by show _ = _; rw [HK.out]; omega, by have := HK.out; omega, by rw [HSC.out]; have h := HST.out; simpa [setAll, Nat.add_assoc, Int.add_assoc] using h, Grew.set (Grew.set (HG1.out) rfl _) rfl _⟩
        case measure => simp [intOf]; omega
      · have hjl : j = l.length := by omega
        subst hjl
        have HG2 := Lib.hid hg2
        have HF2 := Lib.hid hf
        clear hg2 hf
        go_wp2
        go_ret
        have ho := HF2.out.ownc (base := base) (fun _ => rfl) hg hcm (by rw [markQuotaL_len]; exact hlc)
        rw [markQuotaL_len] at ho
        exact ⟨ret_int (by rw [hK.out]), ho, HG2.out⟩
  · have hz : l.length = 0 := by omega
    obtain ⟨A, c, hv, _, _, _⟩ := h.sl
    subst hv
    rw [hz] at h ⊢
    have H := Lib.hid h
    clear h
    go_enter Tryz.func25, Tryz.ntmps25
    go_wp2
    go_loopw [1, 5] (fun sk si wr => si = .int .i64 0 ∧ sk = .int .i64 (k : Int) ∧ w = wr) (fun _ _ _ => 0)
    case atStart => exact ⟨rfl, rfl, rfl⟩
    case round =>
      obtain ⟨rfl, rfl, rfl⟩ := hrel
      go_wp2
      go_ret
      exact ⟨rfl, H.out.empty hz (by rw [markQuotaL_len]), Grew.refl _ _⟩
/-- What is told of a slice of such structs that came in. -/
def QuotasIn (w : World) (A : Option Addr) (n c : Nat) : Prop := ∃ l : List Qt, l.length = n ∧ n ≤ c ∧ c ≤ maxLen ∧ Sl w encQ 2 A l ∧ ∀ p ∈ l, p.1.size ≤ maxLen
end Go.Proofs.YtaghiefokmapmaaGreatDoor

/- Copies of slices of numbers. -/
set_option linter.unusedVariables false
namespace Go.Proofs.YtaghiefokmapmaaGreatDoor
open Go.RowKit

end Go.Proofs.YtaghiefokmapmaaGreatDoor

/- Slices of numbers and of strings, as a law copies, measures, compares and marks them: in one shape with slices of structs. -/
set_option linter.unusedVariables false
namespace Go.Proofs.YtaghiefokmapmaaGreatDoor
open Go.RowKit

theorem str_to (A : Option Addr) (c : Nat) (l : List ByteArray) (w : World) (hs : Sl w encS 1 A l) (hl : l.length ≤ 16777216) :
    Calls Tryz.prog 37 #[.slice A l.length c] w (OwnRes 9 1 encS l w) := toStringS_any A c l w hs hl
def StrFit (l : List ByteArray) : Prop := ∀ s ∈ l, s.size ≤ 1048576
theorem str_sz (A : Option Addr) (c : Nat) (l : List ByteArray) (left : Int) (w : World) (hs : Sl w encS 1 A l) (hl : l.length ≤ maxLen) (hm : ∀ s ∈ l, s.size ≤ maxLen) (h0 : 0 ≤ left) (h1 : left ≤ 1048576) :
    Calls Tryz.prog 35 #[.slice A l.length c, .int .i64 left] w fun e w' => ∃ r : Int, e = .returned (.int .i64 r) ∧ r ≤ 1048576 ∧ (0 ≤ r → l.length ≤ 1048576 ∧ StrFit l) ∧ Below w.heap.size w w' :=
  (szStringS_any A c l left w hs hl hm h0 h1).mono fun _ _ ⟨r, h, h2, h3, e⟩ => ⟨r, h, h2, h3, e ▸ Below.refl _ _⟩
theorem str_eq2 (A B : Option Addr) (c d : Nat) (l : List ByteArray) (w : World) (ha : Sl w encS 1 A l) (hb : Sl w encS 1 B l) (hl : l.length ≤ 16777216) :
    Calls Tryz.prog 21 #[.slice A l.length c, .slice B l.length d] w fun e w' => e = .returned (.bool true) ∧ Below w.heap.size w w' :=
  (l_eqStringS_same A B c d l w ha hb hl).mono fun _ _ ⟨h, hd⟩ => ⟨h, hd.below⟩
/-! ### marks of strings -/
def markStrL (k n : Nat) : List ByteArray := (List.range n).map fun j => mk (markT (k + j))
theorem markStrL_len (k n : Nat) : (markStrL k n).length = n := by simp [markStrL]
theorem markStrL_succ (k n : Nat) : markStrL k (n + 1) = markStrL k n ++ [mk (markT (k + n))] := by simp [markStrL, List.range_succ]
theorem markStrL_at {k n j : Nat} (h : j < n) : (markStrL k n)[j]'(by rw [markStrL_len]; exact h) = mk (markT (k + j)) := by simp [markStrL]
set_option maxHeartbeats 4000000 in
set_option maxRecDepth 100000 in
theorem markStringS_any (base : Nat) (v : Value) (l : List ByteArray) (k : Nat) (w : World) (h : Own w base 9 1 encS v l) (hl : l.length ≤ 16777216) (hk : k ≤ 100000000) :
    Calls Tryz.prog 26 #[v, .int .i64 k] w (Marked 9 1 encS base v (markStrL k l.length) (k + l.length) w) := by
  by_cases h0 : 0 < l.length
  · obtain ⟨g, cap, rfl, hg, hlc, hcm, hf⟩ := h.row h0
    have HF := Lib.hid hf
    have hcm' := hcm
    unfold maxLen at hcm'
    clear hf h
    go_enter Tryz.func26, Tryz.ntmps26
    go_wp2
    go_loopw [1, 5] (fun sk si wr => ∃ (j K : Nat), j ≤ l.length ∧ si = .int .i64 (j : Int) ∧ sk = .int .i64 (K : Int) ∧ Hid (K = k + j) ∧ K ≤ 300000000 ∧ Filled wr g (cap * 1) 9 (flat encS (markStrL k j)) ∧ Grew (.slice (some ⟨g, 0, none⟩) l.length cap) w wr) (fun _ si _ => l.length - (intOf si).toNat)
    case atStart => exact ⟨0, k, Nat.zero_le _, rfl, rfl, rfl, by omega, HF.out, Grew.refl _ _⟩
    case round =>
      obtain ⟨j, K, hj, rfl, rfl, hK, hKb, hf, hg2⟩ := hrel
      by_cases hlt : j < l.length
      · have hlen : (flat encS (markStrL k j)).length = j := by rw [flatS_len, markStrL_len]
        have HF0 := Lib.hid hf
        have HG0 := Lib.hid hg2
        have HLN := Lib.hid hlen
        clear hlen hf hg2
        go_wp2_with fail
        refine (markText_any K _ (by omega)).mono ?_
        rintro e w2 ⟨rfl, hb2⟩
        have HF2 := Lib.hid (HF0.out.below hb2)
        have HG2 := Lib.hid (HG0.out.trans (Grew.below hb2))
        clear hb2
        obtain ⟨u, hu⟩ := HF2.out.cell (j := j) (by omega)
        have hfr := HF2.out.free j
        have hst := HF2.out.store (.string (mk (markT K))) (by rw [HLN.out]; omega)
        rw [HLN.out, show flat encS (markStrL k j) ++ [Value.string (mk (markT K))] = flat encS (markStrL k (j + 1)) from by rw [markStrL_succ, flat_snoc, ← hK.out]; rfl] at hst
        have HST := Lib.hid hst
        clear hst
        go_wp2
        go_roundw
        case rel => exact ⟨j + 1, K + 1, by omega, by go_num, by go_num, by show _ = _; rw [hK.out]; omega, by have := hK.out; omega, HST.out, HG2.out.set rfl _⟩
        case measure => simp [intOf]; omega
      · have hjl : j = l.length := by omega
        subst hjl
        have HG2 := Lib.hid hg2
        have HF2 := Lib.hid hf
        clear hg2 hf
        go_wp2
        go_ret
        have ho := HF2.out.ownc (base := base) (fun _ => rfl) hg hcm (by rw [markStrL_len]; exact hlc)
        rw [markStrL_len] at ho
        exact ⟨ret_int (by rw [hK.out]), ho, HG2.out⟩
  · have hz : l.length = 0 := by omega
    obtain ⟨A, c, hv, _, _, _⟩ := h.sl
    subst hv
    rw [hz] at h ⊢
    have H := Lib.hid h
    clear h
    go_enter Tryz.func26, Tryz.ntmps26
    go_wp2
    go_loopw [1, 5] (fun sk si wr => si = .int .i64 0 ∧ sk = .int .i64 (k : Int) ∧ w = wr) (fun _ _ _ => 0)
    case atStart => exact ⟨rfl, rfl, rfl⟩
    case round =>
      obtain ⟨rfl, rfl, rfl⟩ := hrel
      go_wp2
      go_ret
      exact ⟨rfl, H.out.empty hz (by rw [markStrL_len]), Grew.refl _ _⟩
set_option maxHeartbeats 4000000 in
set_option maxRecDepth 100000 in
theorem heldStringS_any (A : Option Addr) (c : Nat) (k n : Nat) (w : World) (hs : Sl w encS 1 A (markStrL k n)) (hn : n ≤ 16777216) (hk : k ≤ 100000000) :
    Calls Tryz.prog 27 #[.slice A n c, .int .i64 k] w fun e w' => e = .returned (.int .i64 ((k + n : Nat) : Int)) ∧ Below w.heap.size w w' := by
  have HS := Lib.hid hs
  clear hs
  go_enter Tryz.func27, Tryz.ntmps27
  go_wp2
  go_loopw [1, 5] (fun sk si wr => ∃ (j K : Nat), j ≤ n ∧ si = .int .i64 (j : Int) ∧ sk = .int .i64 (K : Int) ∧ Hid (K = k + j) ∧ K ≤ 300000000 ∧ Below w.heap.size w wr) (fun _ si _ => n - (intOf si).toNat)
  case atStart => exact ⟨0, k, Nat.zero_le _, rfl, rfl, rfl, by omega, Below.refl _ _⟩
  case round =>
    obtain ⟨j, K, hj, rfl, rfl, hK, hKb, hb⟩ := hrel
    have HB0 := Lib.hid hb
    clear hb
    by_cases hlt : j < n
    · have hat := markStrL_at (k := k) hlt
      rw [← hK.out] at hat
      obtain ⟨b, o, rfl, hc⟩ := (HS.out.below HB0.out).getS (k := j) (by rw [markStrL_len]; exact hlt)
      rw [hat] at hc
      clear hat
      replace hc := far_cell hc
      go_wp2
      refine wp_region_far (by kernel_rfl) (by kernel_rfl) ?_
      repeat (go_big_quiet_step ((go_at_call 74; exact far_call (markText_any K _ (by omega)))))
      refine wpQuiet_nil ?_
      intro _ hwF
      obtain ⟨pF, hwF⟩ := hwF
      subst hwF
      have HB2 := Lib.hid (Below_then HB0.out (far_below _ pF) (Nat.le_refl _))
      generalize far _ pF = wF at *
      clear hc
      go_wp2
      go_roundw
      case rel => exact ⟨j + 1, K + 1, by omega, by go_num, by go_num, by show _ = _; rw [hK.out]; omega, by have := hK.out; omega, HB2.out⟩
      case measure => simp [intOf]; omega
    · have hjl : j = n := by omega
      subst hjl
      go_wp2
      go_ret
      exact ⟨ret_int (by rw [hK.out]), HB0.out⟩
end Go.Proofs.YtaghiefokmapmaaGreatDoor

/- Laws' walks: FnExactSpotOf, FnExactFoldName, FnFoldName. -/
set_option linter.unusedVariables false
namespace Go.Proofs.YtaghiefokmapmaaGreatDoor
open Go.RowKit
attribute [local go_sem] mk_toList

/-- A law's end: true, and nothing that was there has turned. -/
def LawOk (w : World) (e : Ending) (w' : World) : Prop := e = .returned (.bool true) ∧ Below w.heap.size w w'

set_option maxHeartbeats 2000000 in
set_option maxRecDepth 100000 in
theorem alive_any (w : World) : Calls Tryz.prog 43 #[] w fun e w' => e = .returned (.bool true) ∧ w = w' := by
  have h1 : wordV (bs ⟨#[97, 49]⟩) = true := by decide
  have h2 : wordV (bs ⟨#[49, 97]⟩) = false := by decide
  go_enter Tryz.func43, Tryz.ntmps43
  go_wp2_with (go_at_call 102; refine (iWordValid_any _ _ (by decide)).mono ?_; rintro e w' ⟨rfl, rfl⟩)
  go_ret
  exact ⟨rfl, rfl⟩

/-! ### spots -/
def spotOf (seed many : Int) : Int := if pv seed && inI many 1 16 then prPair seed 17 % many else -1
/-! ### folded names -/
theorem foldName_facts (s : Bs) : foldName (foldName s) = foldName s ∧ (foldName s ≠ [] → (foldName s).length = s.length) := by
  by_cases h : 1 ≤ s.length ∧ s.length ≤ 8 ∧ s.all fineC = true
  · have e : foldName s = s.map foldC := by unfold foldName; rw [if_pos h]
    have hff : ∀ c, fineC c = true → foldC (foldC c) = foldC c ∧ fineC (foldC c) = true := by
      intro c hc
      have h2 : foldC (foldC c) = foldC c := by
        refine foldC_same ?_
        unfold fineC smallC digitC inI at hc
        simp at hc; omega
      refine ⟨h2, ?_⟩
      unfold fineC at hc ⊢
      rw [h2]; exact hc
    have hall := List.all_eq_true.1 h.2.2
    refine ⟨?_, fun _ => by rw [e]; simp⟩
    rw [e]
    have h3 : 1 ≤ (s.map foldC).length ∧ (s.map foldC).length ≤ 8 ∧ (s.map foldC).all fineC = true := by
      refine ⟨by simpa using h.1, by simpa using h.2.1, ?_⟩
      rw [List.all_eq_true]; intro c hc
      obtain ⟨d, hd, rfl⟩ := List.mem_map.1 hc
      exact (hff d (hall d hd)).2
    have e2 : foldName (s.map foldC) = (s.map foldC).map foldC := by unfold foldName; rw [if_pos h3]
    rw [e2, List.map_map]
    refine List.map_congr_left fun c hc => ?_
    exact (hff c (hall c hc)).1
  · have e : foldName s = [] := by unfold foldName; rw [if_neg h]
    rw [e]
    exact ⟨rfl, fun h => absurd rfl h⟩

theorem foldName_le (s : Bs) : (foldName s).length ≤ 8 := by
  unfold foldName; split
  · rename_i h; simpa using h.2.1
  · simp

end Go.Proofs.YtaghiefokmapmaaGreatDoor

/- Quotas that came in, opened. -/
set_option linter.unusedVariables false
namespace Go.Proofs.YtaghiefokmapmaaGreatDoor
open Go.ChangeShapes Go.WideShapes Go.ChangeAt Go.RowKit
section
variable {H : Type} {enc : TypeId × Value → H} {W : World} {a : Option Addr} {n c : Nat} {d : DataW H} {p : List MemPlace}
set_option maxRecDepth 100000 in
theorem openQuotas (h : DataW.Trod enc Tryz.prog W 0 (fun _ => true) true 23 (.slice a n c) d p) : QuotasIn W a n c := by
  refine rows_open Tryz.underlying23 Tryz.underlying89 encQ 2 (fun p => p.1.size ≤ maxLen) (by kernel_rfl) (by omega) (fun _ => rfl) ?_ h
  intro cs q xs hcl hxl hf
  match cs, hcl with
  | [v0, v1], _ =>
    match xs, hxl with
    | [x0, x1], _ =>
      obtain ⟨t, e0, _, ht⟩ := DataW.trod_string Tryz.underlying9 (hf 0 _ rfl)
      obtain ⟨x, e1, _, _⟩ := DataW.trod_int Tryz.underlying3 (hf 1 _ rfl)
      have k0 : Tryz.prog.cellsOf 3 = 1 := by kernel_rfl
      have k1 : Tryz.prog.cellsOf 9 = 1 := by kernel_rfl
      simp [k1] at e0
      simp [k0] at e1
      subst e0 e1
      exact ⟨(t, x), ht, rfl⟩
end
end Go.Proofs.YtaghiefokmapmaaGreatDoor

/- FnExactOverQuotas, walked. Written by exgen.py. -/
set_option linter.unusedVariables false
namespace Go.Proofs.YtaghiefokmapmaaGreatDoor
open Go.RowKit

set_option maxHeartbeats 2000000 in
set_option maxRecDepth 100000 in
theorem wFnExactOverQuotas (A0 : Option Addr) (n0 c0 : Nat) (a1 : Int) (A2 : Option Addr) (n2 c2 : Nat) (w : World) (h0 : PiecesIn w A0 n0 c0) (h2 : QuotasIn w A2 n2 c2) (hmx : MaxL w) (htz : TzL w) : Calls Tryz.prog 3 #[.slice A0 n0 c0, .int .i64 a1, .slice A2 n2 c2] w (LawOk w) := by
  obtain ⟨l0, rfl, hnc0, hcm0, hs0, hm0⟩ := h0
  have HM0 := Lib.hid hm0
  clear hm0
  have HS0 := Lib.hid hs0
  have hln0 : l0.length ≤ maxLen := Nat.le_trans hnc0 hcm0
  have HLN0 := Lib.hid hln0
  clear hs0 hnc0 hcm0 hln0
  obtain ⟨l2, rfl, hnc2, hcm2, hs2, hm2⟩ := h2
  have HM2 := Lib.hid hm2
  clear hm2
  have HS2 := Lib.hid hs2
  have hln2 : l2.length ≤ maxLen := Nat.le_trans hnc2 hcm2
  have HLN2 := Lib.hid hln2
  clear hs2 hnc2 hcm2 hln2
  go_enter Tryz.func3, Tryz.ntmps3
  have HB0 := Lib.hid (Below.refl w.heap.size w)
  go_wp2_with fail
  refine (szPieceS_any _ _ l0 1048576 _ (HS0.out.below HB0.out) HLN0.out HM0.out (by omega) (by omega)).mono ?_
  rintro e w1 ⟨r0, rfl, hr0, hg0, hb⟩
  have HB1 := Lib.hid (Below_then HB0.out hb (Nat.le_refl _))
  have hz1 := hb.size
  have HG0 := Lib.hid hg0
  clear hb hg0
  by_cases hn0 : r0 < 0
  case pos =>
    go_wp2
    go_ret
    exact ⟨rfl, HB1.out⟩
  case neg =>
    obtain ⟨hl0, hf0⟩ := HG0.out (by omega)
    have HF0 := Lib.hid hf0
    clear hf0 HG0
    go_wp2_with fail
    refine (szQuotaS_any _ _ l2 _ _ (HS2.out.below HB1.out) HLN2.out HM2.out (by omega) (by omega)).mono ?_
    rintro e w2 ⟨r2, rfl, hr2, hg2, hb⟩
    have HB2 := Lib.hid (Below_then HB1.out hb (Nat.le_refl _))
    have hz2 := hb.size
    have HG2 := Lib.hid hg2
    clear hb hg2
    by_cases hn2 : r2 < 0
    case pos =>
      go_wp2
      go_ret
      exact ⟨rfl, HB2.out⟩
    case neg =>
      obtain ⟨hl2, hf2⟩ := HG2.out (by omega)
      have HF2 := Lib.hid hf2
      clear hf2 HG2
      have HTZ := Lib.hid htz
      have HMX := Lib.hid hmx
      clear htz hmx
      have hf0 : FitP l0 := fun p hp => Nat.le_trans (HF0.out p hp) (by omega)
      have hf2 : FitQ l2 := fun p hp => HF2.out p hp
      have hS := fun A B c d w h h2 => sOverQuotas_any A B c d l0 a1 l2 w h (by omega) hf0 h2 (by omega) hf2
      have hI := fun A B c d w h h2 hc ht hm => iOverQuotas_any A B c d l0 a1 l2 w h (by omega) hf0 h2 hc (by omega) hf2 ht hm
      unfold OwnRes at hS hI
      have hR0 := overR_len l0 a1 l2
      have hR0b : (overR l0 a1 l2).length ≤ 1048576 := by omega
      clear hR0
      generalize overR l0 a1 l2 = R0 at *
      have HCS := Lib.hid hS
      have HCI := Lib.hid hI
      clear hS hI hf0 hf2
      go_wp2_with fail
      refine (toPieceS_any _ _ _ _ (HS0.out.below HB2.out) (by omega)).mono ?_
      rintro e w3 ⟨v, rfl, hown, hb⟩
      obtain ⟨X_s0, d_s0, rfl, hle_s0, _, _⟩ := hown.sl
      have HU_s0 := Lib.hid hown.up
      have HO_s0 := Lib.hid hown
      have HB3 := Lib.hid (Below_then HB2.out hb (Nat.le_refl _))
      have hz3 := hb.size
      clear hb hown
      go_wp2_with fail
      refine (toQuotaS_any _ _ _ _ (HS2.out.below HB3.out) (by omega)).mono ?_
      rintro e w4 ⟨v, rfl, hown, hb⟩
      obtain ⟨X_s2, d_s2, rfl, hle_s2, _, _⟩ := hown.sl
      have HU_s2 := Lib.hid hown.up
      have HO_s2 := Lib.hid hown
      have HB4 := Lib.hid (Below_then HB3.out hb (Nat.le_refl _))
      have hz4 := hb.size
      replace HO_s0 := Lib.hid (HO_s0.out.below hb)
      clear hb hown
      go_wp2_with fail
      refine (HCS.out _ _ _ _ _ HO_s0.out.sl' HO_s2.out.sl').mono ?_
      rintro e w5 ⟨v, rfl, hown0, hb⟩
      obtain ⟨X_w0_, d_w0_, rfl, _, _, _⟩ := hown0.sl
      have HU_w0_ := Lib.hid hown0.up
      have HO_w0_ := Lib.hid hown0
      have HB5 := Lib.hid (Below_then HB4.out hb (Nat.le_refl _))
      have hz5 := hb.size
      clear hb hown0
      go_wp2_with fail
      refine (toPieceS_any _ _ _ _ (HS0.out.below HB5.out) (by omega)).mono ?_
      rintro e w6 ⟨v, rfl, hown, hb⟩
      obtain ⟨X_x0, d_x0, rfl, hle_x0, _, _⟩ := hown.sl
      have HU_x0 := Lib.hid hown.up
      have HO_x0 := Lib.hid hown
      have HB6 := Lib.hid (Below_then HB5.out hb (Nat.le_refl _))
      have hz6 := hb.size
      replace HO_w0_ := Lib.hid (HO_w0_.out.below hb)
      clear hb hown
      go_wp2_with fail
      refine (toQuotaS_any _ _ _ _ (HS2.out.below HB6.out) (by omega)).mono ?_
      rintro e w7 ⟨v, rfl, hown, hb⟩
      obtain ⟨X_x2, d_x2, rfl, hle_x2, _, _⟩ := hown.sl
      have HU_x2 := Lib.hid hown.up
      have HO_x2 := Lib.hid hown
      have HB7 := Lib.hid (Below_then HB6.out hb (Nat.le_refl _))
      have hz7 := hb.size
      replace HO_w0_ := Lib.hid (HO_w0_.out.below hb)
      replace HO_x0 := Lib.hid (HO_x0.out.below hb)
      clear hb hown
      go_wp2_with fail
      refine (HCI.out _ _ _ _ _ HO_x0.out.sl' HO_x2.out.sl' hle_x2 (HTZ.out.below HB7.out) (HMX.out.below HB7.out)).mono ?_
      rintro e w8 ⟨v, rfl, hown0, hb⟩
      obtain ⟨X_g0_, d_g0_, rfl, _, _, _⟩ := hown0.sl
      have HU_g0_ := Lib.hid hown0.up
      have HO_g0_ := Lib.hid hown0
      have HB8 := Lib.hid (Below_then HB7.out hb (Nat.le_refl _))
      have hz8 := hb.size
      replace HO_w0_ := Lib.hid (HO_w0_.out.below hb)
      replace HO_x0 := Lib.hid (HO_x0.out.below hb)
      replace HO_x2 := Lib.hid (HO_x2.out.below hb)
      clear hb hown0
      go_wp2_with fail
      refine (str_eq2 _ _ _ _ R0 _ HO_g0_.out.sl' HO_w0_.out.sl' (by omega)).mono ?_
      rintro e w9 ⟨rfl, hb⟩
      have HB9 := Lib.hid (Below_then HB8.out hb (Nat.le_refl _))
      have hz9 := hb.size
      replace HO_w0_ := Lib.hid (HO_w0_.out.below hb)
      replace HO_x0 := Lib.hid (HO_x0.out.below hb)
      replace HO_x2 := Lib.hid (HO_x2.out.below hb)
      replace HO_g0_ := Lib.hid (HO_g0_.out.below hb)
      clear hb
      go_wp2_with fail
      refine (toPieceS_any _ _ _ _ (HS0.out.below HB9.out) (by omega)).mono ?_
      rintro e w10 ⟨v, rfl, hown, hb⟩
      obtain ⟨X_y0, d_y0, rfl, hle_y0, _, _⟩ := hown.sl
      have HU_y0 := Lib.hid hown.up
      have HO_y0 := Lib.hid hown
      have HB10 := Lib.hid (Below_then HB9.out hb (Nat.le_refl _))
      have hz10 := hb.size
      replace HO_w0_ := Lib.hid (HO_w0_.out.below hb)
      replace HO_x0 := Lib.hid (HO_x0.out.below hb)
      replace HO_x2 := Lib.hid (HO_x2.out.below hb)
      replace HO_g0_ := Lib.hid (HO_g0_.out.below hb)
      clear hb hown
      go_wp2_with fail
      refine (eqPieceS_same _ _ _ _ l0 _ HO_x0.out.sl' HO_y0.out.sl' (by omega)).mono ?_
      rintro e w11 ⟨rfl, hb⟩
      have HB11 := Lib.hid (Below_then HB10.out hb (Nat.le_refl _))
      have hz11 := hb.size
      replace HO_w0_ := Lib.hid (HO_w0_.out.below hb)
      replace HO_x0 := Lib.hid (HO_x0.out.below hb)
      replace HO_x2 := Lib.hid (HO_x2.out.below hb)
      replace HO_g0_ := Lib.hid (HO_g0_.out.below hb)
      replace HO_y0 := Lib.hid (HO_y0.out.below hb)
      clear hb
      clear HO_y0 HU_y0
      go_wp2_with fail
      refine (toQuotaS_any _ _ _ _ (HS2.out.below HB11.out) (by omega)).mono ?_
      rintro e w12 ⟨v, rfl, hown, hb⟩
      obtain ⟨X_y2, d_y2, rfl, hle_y2, _, _⟩ := hown.sl
      have HU_y2 := Lib.hid hown.up
      have HO_y2 := Lib.hid hown
      have HB12 := Lib.hid (Below_then HB11.out hb (Nat.le_refl _))
      have hz12 := hb.size
      replace HO_w0_ := Lib.hid (HO_w0_.out.below hb)
      replace HO_x0 := Lib.hid (HO_x0.out.below hb)
      replace HO_x2 := Lib.hid (HO_x2.out.below hb)
      replace HO_g0_ := Lib.hid (HO_g0_.out.below hb)
      clear hb hown
      go_wp2_with fail
      refine (eqQuotaS_same _ _ _ _ l2 _ HO_x2.out.sl' HO_y2.out.sl' (by omega)).mono ?_
      rintro e w13 ⟨rfl, hb⟩
      have HB13 := Lib.hid (Below_then HB12.out hb (Nat.le_refl _))
      have hz13 := hb.size
      replace HO_w0_ := Lib.hid (HO_w0_.out.below hb)
      replace HO_x0 := Lib.hid (HO_x0.out.below hb)
      replace HO_x2 := Lib.hid (HO_x2.out.below hb)
      replace HO_g0_ := Lib.hid (HO_g0_.out.below hb)
      replace HO_y2 := Lib.hid (HO_y2.out.below hb)
      clear hb
      clear HO_y2 HU_y2
      go_wp2_with fail
      refine (markPieceS_any _ _ l0 1 _ HO_x0.out (by omega) (by omega)).mono ?_
      rintro e w14 ⟨rfl, hown, hgr⟩
      have HB14 := Lib.hid (hgr.under HB13.out (fun g hg => Nat.le_trans HB5.out.size (HO_x0.out.lo g hg)))
      have hz14 := hgr.size
      replace HO_w0_ := Lib.hid (HO_w0_.out.grew hgr (apart_of HU_w0_.out HO_x0.out.lo (by omega)))
      replace HO_x2 := Lib.hid (HO_x2.out.grew hgr (apart_of' HO_x2.out.lo HU_x0.out (by omega)))
      replace HO_g0_ := Lib.hid (HO_g0_.out.grew hgr (apart_of' HO_g0_.out.lo HU_x0.out (by omega)))
      clear HO_x0 HU_x0
      clear hgr hown
      generalize hK0 : 1 + 2 * l0.length = K0 at *
      have hKb0 : K0 ≤ 10000000 := by omega
      have hKz0 : (0 : Int) ≤ (K0 : Int) := by omega
      have HK0 := Lib.hid hK0
      clear hK0
      go_wp2_with fail
      refine (markQuotaS_any _ _ l2 K0 _ HO_x2.out (by omega) (by omega)).mono ?_
      rintro e w15 ⟨rfl, hown, hgr⟩
      have HB15 := Lib.hid (hgr.under HB14.out (fun g hg => Nat.le_trans HB6.out.size (HO_x2.out.lo g hg)))
      have hz15 := hgr.size
      replace HO_w0_ := Lib.hid (HO_w0_.out.grew hgr (apart_of HU_w0_.out HO_x2.out.lo (by omega)))
      replace HO_g0_ := Lib.hid (HO_g0_.out.grew hgr (apart_of' HO_g0_.out.lo HU_x2.out (by omega)))
      clear HO_x2 HU_x2
      clear hgr hown
      generalize hK1 : K0 + 2 * l2.length = K1 at *
      have hKb1 : K1 ≤ 20000000 := by omega
      have hKz1 : (0 : Int) ≤ (K1 : Int) := by omega
      have HK1 := Lib.hid hK1
      clear hK1
      go_wp2_with fail
      refine (str_eq2 _ _ _ _ R0 _ HO_g0_.out.sl' HO_w0_.out.sl' (by omega)).mono ?_
      rintro e w16 ⟨rfl, hb⟩
      have HB16 := Lib.hid (Below_then HB15.out hb (Nat.le_refl _))
      have hz16 := hb.size
      replace HO_w0_ := Lib.hid (HO_w0_.out.below hb)
      replace HO_g0_ := Lib.hid (HO_g0_.out.below hb)
      clear hb
      go_wp2_with fail
      refine (markStringS_any _ _ R0 1 _ HO_g0_.out (by omega) (by omega)).mono ?_
      rintro e w17 ⟨rfl, hown, hgr⟩
      have HB17 := Lib.hid (hgr.under HB16.out (fun g hg => Nat.le_trans HB7.out.size (HO_g0_.out.lo g hg)))
      have hz17 := hgr.size
      replace HO_w0_ := Lib.hid (HO_w0_.out.grew hgr (apart_of HU_w0_.out HO_g0_.out.lo (by omega)))
      replace HO_g0_ := Lib.hid hown
      clear hgr hown
      generalize hM0 : 1 + R0.length = M0 at *
      have hMb0 : M0 ≤ 10000000 := by omega
      have hMz0 : (0 : Int) ≤ (M0 : Int) := by omega
      have HMM0 := Lib.hid hM0
      clear hM0
      go_wp2_with fail
      refine (heldStringS_any _ _ 1 _ _ HO_g0_.out.sl' (by omega) (by omega)).mono ?_
      rintro e w18 ⟨rfl, hb⟩
      have HB18 := Lib.hid (Below_then HB17.out hb (Nat.le_refl _))
      have hz18 := hb.size
      replace HO_w0_ := Lib.hid (HO_w0_.out.below hb)
      replace HO_g0_ := Lib.hid (HO_g0_.out.below hb)
      clear hb
      rw [HMM0.out]
      go_wp2_with fail
      refine (toPieceS_any _ _ _ _ (HS0.out.below HB18.out) (by omega)).mono ?_
      rintro e w19 ⟨v, rfl, hown, hb⟩
      obtain ⟨X_z0, d_z0, rfl, hle_z0, _, _⟩ := hown.sl
      have HU_z0 := Lib.hid hown.up
      have HO_z0 := Lib.hid hown
      have HB19 := Lib.hid (Below_then HB18.out hb (Nat.le_refl _))
      have hz19 := hb.size
      replace HO_w0_ := Lib.hid (HO_w0_.out.below hb)
      replace HO_g0_ := Lib.hid (HO_g0_.out.below hb)
      clear hb hown
      go_wp2_with fail
      refine (toQuotaS_any _ _ _ _ (HS2.out.below HB19.out) (by omega)).mono ?_
      rintro e w20 ⟨v, rfl, hown, hb⟩
      obtain ⟨X_z2, d_z2, rfl, hle_z2, _, _⟩ := hown.sl
      have HU_z2 := Lib.hid hown.up
      have HO_z2 := Lib.hid hown
      have HB20 := Lib.hid (Below_then HB19.out hb (Nat.le_refl _))
      have hz20 := hb.size
      replace HO_w0_ := Lib.hid (HO_w0_.out.below hb)
      replace HO_g0_ := Lib.hid (HO_g0_.out.below hb)
      replace HO_z0 := Lib.hid (HO_z0.out.below hb)
      clear hb hown
      go_wp2_with fail
      refine (HCI.out _ _ _ _ _ HO_z0.out.sl' HO_z2.out.sl' hle_z2 (HTZ.out.below HB20.out) (HMX.out.below HB20.out)).mono ?_
      rintro e w21 ⟨v, rfl, hown0, hb⟩
      obtain ⟨X_h0_, d_h0_, rfl, _, _, _⟩ := hown0.sl
      have HU_h0_ := Lib.hid hown0.up
      have HO_h0_ := Lib.hid hown0
      have HB21 := Lib.hid (Below_then HB20.out hb (Nat.le_refl _))
      have hz21 := hb.size
      replace HO_w0_ := Lib.hid (HO_w0_.out.below hb)
      replace HO_g0_ := Lib.hid (HO_g0_.out.below hb)
      clear hb hown0
      go_wp2_with fail
      refine (str_eq2 _ _ _ _ R0 _ HO_h0_.out.sl' HO_w0_.out.sl' (by omega)).mono ?_
      rintro e w22 ⟨rfl, hb⟩
      have HB22 := Lib.hid (Below_then HB21.out hb (Nat.le_refl _))
      have hz22 := hb.size
      replace HO_w0_ := Lib.hid (HO_w0_.out.below hb)
      replace HO_g0_ := Lib.hid (HO_g0_.out.below hb)
      replace HO_h0_ := Lib.hid (HO_h0_.out.below hb)
      clear hb
      go_wp2_with fail
      refine (heldStringS_any _ _ 1 _ _ HO_g0_.out.sl' (by omega) (by omega)).mono ?_
      rintro e w23 ⟨rfl, hb⟩
      have HB23 := Lib.hid (Below_then HB22.out hb (Nat.le_refl _))
      have hz23 := hb.size
      replace HO_g0_ := Lib.hid (HO_g0_.out.below hb)
      clear hb
      rw [HMM0.out]
      go_wp2
      go_ret
      exact ⟨rfl, HB23.out⟩
end Go.Proofs.YtaghiefokmapmaaGreatDoor

/- The frame of a law whose row lists variables of the library: the world's shape is kept beside the condition. -/
set_option linter.unusedVariables false
namespace Go.Proofs.YtaghiefokmapmaaGreatDoor
open Go Go.ChangeShapes Go.WideShapes
variable {H : Type} {enc : TypeId × Value → H}
theorem returns_and_shaped {a : Assume} {C : Checked} {os : Os} {f : FuncId} {fn : Func} {s : ChangeSpec} {conds : List PathCond} {apart fresh handsOn again : Bool} {X : World → Array Value → Prop}
    (hX : ∀ (w w' : World) (args : Array Value), w.heap = w'.heap → X w args → X w' args)
    (own : ownKnob C.prog.godebug = none) (started : os.Started) (noInit : C.prog.inits.idxOf? f = none) (hfn : C.prog.funcs[f]? = some fn)
    (witness : ∃ (w : World) (tape : Tape) (i : Input), w.os = os ∧ (w.forCall tape i).Shaped C.prog ∧ i.vars = [] ∧ Input.okWide C.prog (w.forCall tape i) .any w.heap.size f i ∧
      ((s.pre enc C.prog fn conds apart (w.forCall tape i).memory i.args ∧ X (w.forCall tape i).memory i.args) ∧ sizedMet enc C.prog fn (OpenSpec.ofChange s) apart (w.forCall tape i).memory i.args) ∧ a.holds C.prog (lone (Frame.enter C.prog f i.args .normal) [] (w.forCall tape i)))
    (contract : ∀ (W : World) (base : Nat) (args : Array Value) (ds gs : List (DataW H)) (before : List MemPlace),
      (∀ (j : Nat) t v, fn.params[j]? = some t → args[j]? = some v → Value.okWide C.prog W .any base t v) →
      DataW.Whole enc C.prog fn.params.toList s.vars apart W args.toList ds gs before → W.ShapedOpen C.prog → X W args →
      Calls C.prog f args W fun e W' => ∃ v, e = .returned v ∧ s.post enc C.prog fn apart fresh handsOn again W args v W') :
    ReturnsInHanded a C os f .any (fun w args => (s.pre enc C.prog fn conds apart w args ∧ X w args) ∧ sizedMet enc C.prog fn (OpenSpec.ofChange s) apart w args) (s.post enc C.prog fn apart fresh handsOn again) := by
  refine returnsInHanded_of_calls own started noInit witness ?_
  intro w tape i _ hsh _ hok hpre hholds
  obtain ⟨_, _, _, fn', hfn', _, _, _, _, hval⟩ := hok
  have e : fn' = fn := Option.some.inj (hfn'.symm.trans hfn)
  subst e
  obtain ⟨⟨⟨ds, gs, before, hw, hc⟩, hx⟩, hz⟩ := hpre
  have hw' := DataW.Whole.of_heap (w' := w.forCall tape i) (by rfl) hw
  refine (contract (w.forCall tape i) w.heap.size i.args ds gs before hval hw' hsh (hX _ _ _ (by rfl) hx)).mono fun e W' ⟨v, he, hp⟩ => ?_
  subst he
  exact ChangeSpec.post_blind hp
end Go.Proofs.YtaghiefokmapmaaGreatDoor

/- What the listed table of math/bits holds. -/
set_option linter.unusedVariables false
namespace Go.Proofs.YtaghiefokmapmaaGreatDoor
open Go Go.ChangeShapes Go.WideShapes
set_option maxRecDepth 100000 in
theorem tz_laid {W : World} (h : laidMetH Tryz.prog [("math/bits.deBruijn64tab", Rows.laid_math_bits_deBruijn64tab)] W) : TzL W := by
  rw [MakeChecks.laidMetH_plain _ _ _ (by kernel_rfl)] at h
  obtain ⟨ps, ⟨g, t, cs, fuel, p, q, hg, ht, hv, hd, _, _⟩, _, _⟩ := h
  obtain rfl := Option.some.inj ((show Tryz.prog.globalNamed "math/bits.deBruijn64tab" = some 5 by kernel_rfl).symm.trans hg)
  obtain rfl := Option.some.inj ((show (Tryz.prog.globals[5]?).map (·.type) = some 231 by kernel_rfl).symm.trans ht)
  obtain ⟨xs, m, _, ex, _, hl, hel⟩ := DataW.trod_array Tryz.underlying231 hd
  have c5 : Tryz.prog.cellsOf 5 = 1 := by kernel_rfl
  have hE := hel 15 (by omega)
  rw [c5, Nat.mul_one, List.getElem?_eq_getElem (by omega)] at hE
  obtain ⟨z, e1, e2, _⟩ := DataW.trod_int Tryz.underlying5 hE
  have e3 := (Prod.mk.inj ex).1
  unfold Rows.laid_math_bits_deBruijn64tab at e3
  have e4 : (xs.map (·.1))[15]? = some (.lit (.int .u8 4)) := by rw [← DataW.agg.inj e3]; rfl
  rw [List.getElem?_map, List.getElem?_eq_getElem (by omega : 15 < xs.length), e2] at e4
  have hz : z = 4 := by simpa using e4
  unfold TzL
  rw [World.var?_cell hg hv 15, ← hz]
  have : cs.toList[15]? = some (.int .u8 z) := by
    have h0 : ((cs.toList.drop 15).take 1)[0]? = some (.int .u8 z) := by rw [e1]; rfl
    simpa using h0
  simpa using this
end Go.Proofs.YtaghiefokmapmaaGreatDoor
