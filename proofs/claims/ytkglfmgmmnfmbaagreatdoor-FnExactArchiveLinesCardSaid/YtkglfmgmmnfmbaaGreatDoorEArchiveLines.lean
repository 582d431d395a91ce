/- FnExactArchiveLines, walked. Written by exgen_ar.py. -/
import Derived.Test.YtkglfmgmmnfmbaaGreatDoorOs
import Derived.Test.YtkglfmgmmnfmbaaGreatDoorGd1
import Derived.Test.YtkglfmgmmnfmbaaGreatDoorGa7
import Derived.Test.YtkglfmgmmnfmbaaGreatDoorGa8
import Derived.Test.YtkglfmgmmnfmbaaGreatDoorGa6
import Derived.Test.YtkglfmgmmnfmbaaGreatDoorKi
import Derived.Test.YtkglfmgmmnfmbaaGreatDoorGa5
import Derived.Test.YtkglfmgmmnfmbaaGreatDoorOpen5
set_option linter.unusedVariables false
namespace Go.Proofs.YtkglfmgmmnfmbaaGreatDoor
open Go.RowKit

theorem keep6 {w w' : World} {a b : Nat} {v0 v1 v2 v3 v4 v5 : Value} (hb : Below w.heap.size w w') (h : w.cell? ⟨a, 0, none⟩ = some v0 ∧ w.cell? ⟨a, 1, none⟩ = some v1 ∧ w.cell? ⟨a, 2, none⟩ = some v2 ∧ w.cell? ⟨b, 0, none⟩ = some v3 ∧ w.cell? ⟨b, 1, none⟩ = some v4 ∧ w.cell? ⟨b, 2, none⟩ = some v5) : w'.cell? ⟨a, 0, none⟩ = some v0 ∧ w'.cell? ⟨a, 1, none⟩ = some v1 ∧ w'.cell? ⟨a, 2, none⟩ = some v2 ∧ w'.cell? ⟨b, 0, none⟩ = some v3 ∧ w'.cell? ⟨b, 1, none⟩ = some v4 ∧ w'.cell? ⟨b, 2, none⟩ = some v5 :=
  ⟨Below_cells hb _ _ _ h.1, Below_cells hb _ _ _ h.2.1, Below_cells hb _ _ _ h.2.2.1, Below_cells hb _ _ _ h.2.2.2.1, Below_cells hb _ _ _ h.2.2.2.2.1, Below_cells hb _ _ _ h.2.2.2.2.2⟩
theorem join6 {w : World} {a b : Nat} {v0 v1 v2 v3 v4 v5 : Value} (h : w.cell? ⟨a, 0, none⟩ = some v0 ∧ w.cell? ⟨a, 1, none⟩ = some v1 ∧ w.cell? ⟨a, 2, none⟩ = some v2) (g : w.cell? ⟨b, 0, none⟩ = some v3 ∧ w.cell? ⟨b, 1, none⟩ = some v4 ∧ w.cell? ⟨b, 2, none⟩ = some v5) : w.cell? ⟨a, 0, none⟩ = some v0 ∧ w.cell? ⟨a, 1, none⟩ = some v1 ∧ w.cell? ⟨a, 2, none⟩ = some v2 ∧ w.cell? ⟨b, 0, none⟩ = some v3 ∧ w.cell? ⟨b, 1, none⟩ = some v4 ∧ w.cell? ⟨b, 2, none⟩ = some v5 :=
  ⟨h.1, h.2.1, h.2.2, g.1, g.2.1, g.2.2⟩
set_option maxHeartbeats 4000000 in
set_option maxRecDepth 100000 in
theorem wFnExactArchiveLines (v0 : Value) (A1 : Option Addr) (n1 c1 : Nat) (w : World) (h0 : ArchiveIn w v0) (h1 : StrsIn2 w A1 n1 c1) (hmx : MaxL w) (htz : TzL w) : Calls Tryz.prog 4 #[v0, .slice A1 n1 c1] w (LawOk w) := by
  obtain ⟨A0, c0, l0, x0, B0, d0, m0, rfl, hs0, hln0, hm0, ht0, hln0b, hm0b⟩ := h0
  have HS0 := Lib.hid hs0
  have HT0 := Lib.hid ht0
  have HM0 := Lib.hid hm0
  have HM0b := Lib.hid hm0b
  have HLN0 := Lib.hid hln0
  have HLN0b := Lib.hid hln0b
  clear hs0 ht0 hm0 hm0b hln0 hln0b
  obtain ⟨l1, rfl, hnc1, hcm1, hs1, hm1⟩ := h1
  have HM1 := Lib.hid hm1
  clear hm1
  have HS1 := Lib.hid hs1
  have hln1 : l1.length ≤ maxLen := Nat.le_trans hnc1 hcm1
  have HLN1 := Lib.hid hln1
  clear hs1 hnc1 hcm1 hln1
  go_enter Tryz.func4, Tryz.ntmps4
  have HB0 := Lib.hid (Below.refl w.heap.size w)
  go_wp2_with fail
  refine (szArchive_any _ _ _ _ l0 m0 x0 _ ((HS0.out.below HB0.out).alloc _) HLN0.out HM0.out ((HT0.out.below HB0.out).alloc _) HLN0b.out HM0b.out).mono ?_
  rintro e w1 ⟨r0, rfl, hr0, hg0, hb⟩
  have HR_a0 := Lib.hid (Row3.new.below hb)
  have HB1 := Lib.hid (Below_then HB0.out (Below_of_alloc hb) (Nat.le_refl _))
  have hz1 := hb.size
  simp only [World.alloc_size_] at hz1
  have HG0 := Lib.hid hg0
  clear hb hg0
  by_cases hn0 : r0 < 0
  case pos =>
    go_wp2
    go_ret
    exact ⟨rfl, HB1.out⟩
  case neg =>
    obtain ⟨hl0, hl0b, hf0, hf0b⟩ := HG0.out (by omega)
    have HF0 := Lib.hid hf0
    have HF0b := Lib.hid hf0b
    clear hf0 hf0b HG0
    go_wp2_with fail
    refine (str_sz _ _ l1 r0 _ (HS1.out.below HB1.out) HLN1.out HM1.out (by omega) (by omega)).mono ?_
    rintro e w2 ⟨r1, rfl, hr1, hg1, hb⟩
    replace HR_a0 := Lib.hid (HR_a0.out.below hb)
    have HB2 := Lib.hid (Below_then HB1.out hb (Nat.le_refl _))
    have hz2 := hb.size
    have HG1 := Lib.hid hg1
    clear hb hg1
    by_cases hn1 : r1 < 0
    case pos =>
      go_wp2
      go_ret
      exact ⟨rfl, HB2.out⟩
    case neg =>
      obtain ⟨hl1, hf1⟩ := HG1.out (by omega)
      have HF1 := Lib.hid hf1
      clear hf1 HG1
      have HTZ := Lib.hid htz
      have HMX := Lib.hid hmx
      clear htz hmx
      have hf0 : FitP l0 := fun p hp => Nat.le_trans (HF0.out p hp) (by omega)
      have hf0b : FitV m0 := fun p hp => Nat.le_trans (HF0b.out p hp) (by omega)
      have hf1 : ∀ s ∈ l1, s.size ≤ 1048576 := fun p hp => HF1.out p hp
      have hS := fun A B C c d e w h1 hc h2 hd h3 => sArchiveLines_any A B C c d e l0 m0 x0 l1 w h1 hc (by omega) hf0 h2 hd (by omega) hf0b h3 (by omega) hf1
      have hI := fun A B C c d e w h1 hc h2 hd h3 ht hm => iArchiveLines_any A B C c d e l0 m0 x0 l1 w h1 hc (by omega) hf0 h2 hd (by omega) hf0b h3 (by omega) hf1 ht hm
      unfold AmRes at hS hI
      have hR0 := archM_len ⟨l0, x0, m0⟩ (l1.map bs)
      generalize archM ⟨l0, x0, m0⟩ (l1.map bs) = RR at *
      obtain ⟨⟨Rp, Ro, Rv⟩, Ra⟩ := RR
      simp only at hS hI hR0
      have hRs : (Ra.map mk).length ≤ 12 := by rw [List.length_map]; exact hR0.2.2
      generalize Ra.map mk = Rs at *
      have hRp := hR0.1
      have hRv := hR0.2.1
      have HCS := Lib.hid hS
      have HCI := Lib.hid hI
      clear hS hI hf0 hf0b hf1 hR0
      obtain ⟨⟨x0_a0, x1_a0, x2_a0⟩, _, _⟩ := HR_a0.out
      go_wp2_with fail
      refine (toArchive_any _ _ _ _ l0 m0 x0 _ (HS0.out.below HB2.out) (by omega) (HT0.out.below HB2.out) (by omega)).mono ?_
      rintro e w3 ⟨p, q, rfl, hownp, hownq, hap, hb⟩
      replace HR_a0 := Lib.hid (HR_a0.out.below hb)
      have HB3 := Lib.hid (Below_then HB2.out hb (Nat.le_refl _))
      have hz3 := hb.size
      clear x0_a0 x1_a0 x2_a0
      obtain ⟨X_s0p, d_s0p, rfl, hle_s0p, _, _⟩ := hownp.sl
      have HU_s0p := Lib.hid hownp.up
      have HX_s0p := Lib.hid hownp.lo
      have HO_s0p := Lib.hid hownp
      obtain ⟨X_s0v, d_s0v, rfl, hle_s0v, _, _⟩ := hownq.sl
      have HU_s0v := Lib.hid hownq.up
      have HX_s0v := Lib.hid hownq.lo
      have HO_s0v := Lib.hid hownq
      have HAP_s0p := Lib.hid hap
      clear hb hownp hownq hap
      go_wp2_with fail
      refine (str_to _ _ _ _ (HS1.out.below HB3.out) (by omega)).mono ?_
      rintro e w4 ⟨v, rfl, hown, hb⟩
      replace HR_a0 := Lib.hid (HR_a0.out.below hb)
      replace HO_s0p := Lib.hid (HO_s0p.out.below hb)
      replace HO_s0v := Lib.hid (HO_s0v.out.below hb)
      have HB4 := Lib.hid (Below_then HB3.out hb (Nat.le_refl _))
      have hz4 := hb.size
      obtain ⟨X_s1, d_s1, rfl, hle_s1, _, _⟩ := hown.sl
      have HU_s1 := Lib.hid hown.up
      have HX_s1 := Lib.hid hown.lo
      have HO_s1 := Lib.hid hown
      clear hb hown
      go_wp2_with fail
      refine (HCS.out _ _ _ _ _ _ _ HO_s0p.out.sl' HO_s0p.out.cz HO_s0v.out.sl' HO_s0v.out.cz HO_s1.out.sl').mono ?_
      rintro e w5 ⟨p, q, v, rfl, hownp, hownq, hown1, hap, hap2, hap3, hb⟩
      replace HR_a0 := Lib.hid (HR_a0.out.below hb)
      replace HO_s0p := Lib.hid (HO_s0p.out.below hb)
      replace HO_s0v := Lib.hid (HO_s0v.out.below hb)
      replace HO_s1 := Lib.hid (HO_s1.out.below hb)
      have HB5 := Lib.hid (Below_then HB4.out hb (Nat.le_refl _))
      have hz5 := hb.size
      obtain ⟨X_w0p, d_w0p, rfl, hle_w0p, _, _⟩ := hownp.sl
      have HU_w0p := Lib.hid hownp.up
      have HX_w0p := Lib.hid hownp.lo
      have HO_w0p := Lib.hid hownp
      obtain ⟨X_w0v, d_w0v, rfl, hle_w0v, _, _⟩ := hownq.sl
      have HU_w0v := Lib.hid hownq.up
      have HX_w0v := Lib.hid hownq.lo
      have HO_w0v := Lib.hid hownq
      have HAP_w0p := Lib.hid hap
      clear hownp hownq hap
      obtain ⟨X_w1, d_w1, rfl, hle_w1, _, _⟩ := hown1.sl
      have HU_w1 := Lib.hid hown1.up
      have HX_w1 := Lib.hid hown1.lo
      have HO_w1 := Lib.hid hown1
      clear hown1
      have HAPU_w0p := Lib.hid hap2
      have HAPU_w0v := Lib.hid hap3
      clear hap2 hap3
      clear hb
      clear HO_s0p HU_s0p HX_s0p
      clear HO_s0v HU_s0v HX_s0v
      clear HO_s1 HU_s1 HX_s1
      obtain ⟨⟨x0_a0, x1_a0, x2_a0⟩, _, _⟩ := (HR_a0.out.below ((Below.refl _ _).alloc (Nat.le_refl _) (.cells #[.slice X_w0p Rp.length d_w0p, .int .i64 Ro, .slice X_w0v Rv.length d_w0v] 30)))
      go_wp2_with fail
      refine (toArchive_any _ _ _ _ l0 m0 x0 _ ((HS0.out.below HB5.out).alloc _) (by omega) ((HT0.out.below HB5.out).alloc _) (by omega)).mono ?_
      rintro e w6 ⟨p, q, rfl, hownp, hownq, hap, hb⟩
      have HR_w0 := Lib.hid (Row3.new.below hb)
      replace HR_a0 := Lib.hid (HR_a0.out.below (Below_of_alloc hb))
      replace HO_w0p := Lib.hid (HO_w0p.out.below (Below_of_alloc hb))
      replace HO_w0v := Lib.hid (HO_w0v.out.below (Below_of_alloc hb))
      replace HO_w1 := Lib.hid (HO_w1.out.below (Below_of_alloc hb))
      have HB6 := Lib.hid (Below_then HB5.out (Below_of_alloc hb) (Nat.le_refl _))
      have hz6 := hb.size
      simp only [World.alloc_size_] at hz6
      clear x0_a0 x1_a0 x2_a0
      obtain ⟨X_x0p, d_x0p, rfl, hle_x0p, _, _⟩ := hownp.sl
      have HU_x0p := Lib.hid hownp.up
      have HX_x0p := Lib.hid hownp.lo
      have HO_x0p := Lib.hid hownp
      obtain ⟨X_x0v, d_x0v, rfl, hle_x0v, _, _⟩ := hownq.sl
      have HU_x0v := Lib.hid hownq.up
      have HX_x0v := Lib.hid hownq.lo
      have HO_x0v := Lib.hid hownq
      have HAP_x0p := Lib.hid hap
      clear hb hownp hownq hap
      go_wp2_with fail
      refine (str_to _ _ _ _ ((HS1.out.below HB6.out).alloc _) (by omega)).mono ?_
      rintro e w7 ⟨v, rfl, hown, hb⟩
      have HR_x0 := Lib.hid (Row3.new.below hb)
      replace HR_a0 := Lib.hid (HR_a0.out.below (Below_of_alloc hb))
      replace HR_w0 := Lib.hid (HR_w0.out.below (Below_of_alloc hb))
      replace HO_w0p := Lib.hid (HO_w0p.out.below (Below_of_alloc hb))
      replace HO_w0v := Lib.hid (HO_w0v.out.below (Below_of_alloc hb))
      replace HO_w1 := Lib.hid (HO_w1.out.below (Below_of_alloc hb))
      replace HO_x0p := Lib.hid (HO_x0p.out.below (Below_of_alloc hb))
      replace HO_x0v := Lib.hid (HO_x0v.out.below (Below_of_alloc hb))
      have HB7 := Lib.hid (Below_then HB6.out (Below_of_alloc hb) (Nat.le_refl _))
      have hz7 := hb.size
      simp only [World.alloc_size_] at hz7
      obtain ⟨X_x1, d_x1, rfl, hle_x1, _, _⟩ := hown.sl
      have HU_x1 := Lib.hid hown.up
      have HX_x1 := Lib.hid hown.lo
      have HO_x1 := Lib.hid hown
      clear hb hown
      obtain ⟨⟨x0_x0, x1_x0, x2_x0⟩, _, _⟩ := HR_x0.out
      go_wp2_with fail
      refine (HCI.out _ _ _ _ _ _ _ HO_x0p.out.sl' HO_x0p.out.cz HO_x0v.out.sl' HO_x0v.out.cz HO_x1.out.sl' (HTZ.out.below HB7.out) (HMX.out.below HB7.out)).mono ?_
      rintro e w8 ⟨p, q, v, rfl, hownp, hownq, hown1, hap, hap2, hap3, hb⟩
      replace HR_a0 := Lib.hid (HR_a0.out.below hb)
      replace HR_w0 := Lib.hid (HR_w0.out.below hb)
      replace HR_x0 := Lib.hid (HR_x0.out.below hb)
      replace HO_w0p := Lib.hid (HO_w0p.out.below hb)
      replace HO_w0v := Lib.hid (HO_w0v.out.below hb)
      replace HO_w1 := Lib.hid (HO_w1.out.below hb)
      replace HO_x0p := Lib.hid (HO_x0p.out.below hb)
      replace HO_x0v := Lib.hid (HO_x0v.out.below hb)
      replace HO_x1 := Lib.hid (HO_x1.out.below hb)
      have HB8 := Lib.hid (Below_then HB7.out hb (Nat.le_refl _))
      have hz8 := hb.size
      clear x0_x0 x1_x0 x2_x0
      obtain ⟨X_g0p, d_g0p, rfl, hle_g0p, _, _⟩ := hownp.sl
      have HU_g0p := Lib.hid hownp.up
      have HX_g0p := Lib.hid hownp.lo
      have HO_g0p := Lib.hid hownp
      obtain ⟨X_g0v, d_g0v, rfl, hle_g0v, _, _⟩ := hownq.sl
      have HU_g0v := Lib.hid hownq.up
      have HX_g0v := Lib.hid hownq.lo
      have HO_g0v := Lib.hid hownq
      have HAP_g0p := Lib.hid hap
      clear hownp hownq hap
      obtain ⟨X_g1, d_g1, rfl, hle_g1, _, _⟩ := hown1.sl
      have HU_g1 := Lib.hid hown1.up
      have HX_g1 := Lib.hid hown1.lo
      have HO_g1 := Lib.hid hown1
      clear hown1
      have HAPU_g0p := Lib.hid hap2
      have HAPU_g0v := Lib.hid hap3
      clear hap2 hap3
      clear hb
      obtain ⟨⟨x0_w0, x1_w0, x2_w0⟩, _, _⟩ := (HR_w0.out.below ((Below.refl _ _).alloc (Nat.le_refl _) (.cells #[.slice X_g0p Rp.length d_g0p, .int .i64 Ro, .slice X_g0v Rv.length d_g0v] 30)))
      go_wp2_with fail
      refine (eqArchive_same _ _ _ _ _ _ _ _ Rp Rv _ _ (HO_g0p.out.alloc _).sl' (HO_w0p.out.alloc _).sl' (by omega) (HO_g0v.out.alloc _).sl' (HO_w0v.out.alloc _).sl' (by omega)).mono ?_
      rintro e w9 ⟨rfl, hb⟩
      have HR_g0 := Lib.hid (Row3.new.below hb)
      replace HR_a0 := Lib.hid (HR_a0.out.below (Below_of_alloc hb))
      replace HR_w0 := Lib.hid (HR_w0.out.below (Below_of_alloc hb))
      replace HR_x0 := Lib.hid (HR_x0.out.below (Below_of_alloc hb))
      replace HO_w0p := Lib.hid (HO_w0p.out.below (Below_of_alloc hb))
      replace HO_w0v := Lib.hid (HO_w0v.out.below (Below_of_alloc hb))
      replace HO_w1 := Lib.hid (HO_w1.out.below (Below_of_alloc hb))
      replace HO_x0p := Lib.hid (HO_x0p.out.below (Below_of_alloc hb))
      replace HO_x0v := Lib.hid (HO_x0v.out.below (Below_of_alloc hb))
      replace HO_x1 := Lib.hid (HO_x1.out.below (Below_of_alloc hb))
      replace HO_g0p := Lib.hid (HO_g0p.out.below (Below_of_alloc hb))
      replace HO_g0v := Lib.hid (HO_g0v.out.below (Below_of_alloc hb))
      replace HO_g1 := Lib.hid (HO_g1.out.below (Below_of_alloc hb))
      have HB9 := Lib.hid (Below_then HB8.out (Below_of_alloc hb) (Nat.le_refl _))
      have hz9 := hb.size
      simp only [World.alloc_size_] at hz9
      clear x0_w0 x1_w0 x2_w0
      clear hb
      go_wp2_with fail
      refine (str_eq2 _ _ _ _ Rs _ HO_g1.out.sl' HO_w1.out.sl' (by omega)).mono ?_
      rintro e w10 ⟨rfl, hb⟩
      replace HR_a0 := Lib.hid (HR_a0.out.below hb)
      replace HR_w0 := Lib.hid (HR_w0.out.below hb)
      replace HR_x0 := Lib.hid (HR_x0.out.below hb)
      replace HR_g0 := Lib.hid (HR_g0.out.below hb)
      replace HO_w0p := Lib.hid (HO_w0p.out.below hb)
      replace HO_w0v := Lib.hid (HO_w0v.out.below hb)
      replace HO_w1 := Lib.hid (HO_w1.out.below hb)
      replace HO_x0p := Lib.hid (HO_x0p.out.below hb)
      replace HO_x0v := Lib.hid (HO_x0v.out.below hb)
      replace HO_x1 := Lib.hid (HO_x1.out.below hb)
      replace HO_g0p := Lib.hid (HO_g0p.out.below hb)
      replace HO_g0v := Lib.hid (HO_g0v.out.below hb)
      replace HO_g1 := Lib.hid (HO_g1.out.below hb)
      have HB10 := Lib.hid (Below_then HB9.out hb (Nat.le_refl _))
      have hz10 := hb.size
      clear hb
      have HKa := Lib.hid HR_a0.out.1
      have HKx := Lib.hid HR_x0.out.1
      have HK := Lib.hid (join6 HKa.out HKx.out)
      clear HKa HKx
      obtain ⟨⟨x0_a0, x1_a0, x2_a0⟩, _, _⟩ := HR_a0.out
      obtain ⟨⟨x0_x0, x1_x0, x2_x0⟩, _, _⟩ := HR_x0.out
      have HPx := Lib.hid HO_x0p.out
      have HVx := Lib.hid HO_x0v.out
      go_wp2_with fail
      go_region_held3 (fun w' => w'.cell? ⟨w.heap.size, 0, none⟩ = some (.slice A0 l0.length c0) ∧ w'.cell? ⟨w.heap.size, 1, none⟩ = some (.int .i64 x0) ∧ w'.cell? ⟨w.heap.size, 2, none⟩ = some (.slice B0 m0.length d0) ∧ w'.cell? ⟨w6.heap.size, 0, none⟩ = some (.slice X_x0p l0.length d_x0p) ∧ w'.cell? ⟨w6.heap.size, 1, none⟩ = some (.int .i64 x0) ∧ w'.cell? ⟨w6.heap.size, 2, none⟩ = some (.slice X_x0v m0.length d_x0v))
        (first | assumption | exact HK.out)
        ((first
          | (go_at_call 11; refine (toArchive_any _ _ _ _ l0 m0 x0 _ (by exact HS0.out.below HB10.out.drew) (by omega) (by exact HT0.out.below HB10.out.drew) (by omega)).mono ?_; rintro e w9 ⟨p, q, rfl, hownp, hownq, hap, hb⟩; obtain ⟨X_yp, d_yp, rfl, _, _, _⟩ := hownp.sl; obtain ⟨X_yv, d_yv, rfl, _, _, _⟩ := hownq.sl; have HYp := Lib.hid hownp; have HYv := Lib.hid hownq; have HK := Lib.hid (keep6 (Below_drew hb) HK.out); have HQ1 := Lib.hid (Below_drew hb); have HPx := Lib.hid (HPx.out.below (Below_drew hb)); have HVx := Lib.hid (HVx.out.below (Below_drew hb)); clear hb hownp hownq hap)
          | (go_at_call 13; refine (eqArchive_same _ _ _ _ _ _ _ _ l0 m0 _ _ HPx.out.sl' HYp.out.sl' (by omega) HVx.out.sl' HYv.out.sl' (by omega)).mono ?_; rintro e w11 ⟨rfl, hb⟩; have HQ2 := Lib.hid (Below_then HQ1.out hb (Nat.le_refl _)); have HK := Lib.hid (keep6 hb HK.out); clear hb)))
      all_goals
        clear HPx HVx HYp HYv HK HQ1
        clear x0_a0 x1_a0 x2_a0 x0_x0 x1_x0 x2_x0
        replace HR_a0 := Lib.hid (HR_a0.out.below HQ2.out)
        replace HR_w0 := Lib.hid (HR_w0.out.below HQ2.out)
        replace HR_x0 := Lib.hid (HR_x0.out.below HQ2.out)
        replace HR_g0 := Lib.hid (HR_g0.out.below HQ2.out)
        replace HO_w0p := Lib.hid (HO_w0p.out.below HQ2.out)
        replace HO_w0v := Lib.hid (HO_w0v.out.below HQ2.out)
        replace HO_w1 := Lib.hid (HO_w1.out.below HQ2.out)
        replace HO_x0p := Lib.hid (HO_x0p.out.below HQ2.out)
        replace HO_x0v := Lib.hid (HO_x0v.out.below HQ2.out)
        replace HO_x1 := Lib.hid (HO_x1.out.below HQ2.out)
        replace HO_g0p := Lib.hid (HO_g0p.out.below HQ2.out)
        replace HO_g0v := Lib.hid (HO_g0v.out.below HQ2.out)
        replace HO_g1 := Lib.hid (HO_g1.out.below HQ2.out)
        have HB11 := Lib.hid (Below_then HB10.out HQ2.out (Nat.le_refl _))
        have hz11 := HQ2.out.size
        clear HQ2
        go_wp2_with fail
        refine (str_to _ _ _ _ (HS1.out.below HB11.out) (by omega)).mono ?_
        rintro e w12 ⟨v, rfl, hown, hb⟩
        replace HR_a0 := Lib.hid (HR_a0.out.below hb)
        replace HR_w0 := Lib.hid (HR_w0.out.below hb)
        replace HR_x0 := Lib.hid (HR_x0.out.below hb)
        replace HR_g0 := Lib.hid (HR_g0.out.below hb)
        replace HO_w0p := Lib.hid (HO_w0p.out.below hb)
        replace HO_w0v := Lib.hid (HO_w0v.out.below hb)
        replace HO_w1 := Lib.hid (HO_w1.out.below hb)
        replace HO_x0p := Lib.hid (HO_x0p.out.below hb)
        replace HO_x0v := Lib.hid (HO_x0v.out.below hb)
        replace HO_x1 := Lib.hid (HO_x1.out.below hb)
        replace HO_g0p := Lib.hid (HO_g0p.out.below hb)
        replace HO_g0v := Lib.hid (HO_g0v.out.below hb)
        replace HO_g1 := Lib.hid (HO_g1.out.below hb)
        have HB12 := Lib.hid (Below_then HB11.out hb (Nat.le_refl _))
        have hz12 := hb.size
        obtain ⟨X_y1, d_y1, rfl, hle_y1, _, _⟩ := hown.sl
        have HU_y1 := Lib.hid hown.up
        have HX_y1 := Lib.hid hown.lo
        have HO_y1 := Lib.hid hown
        clear hb hown
        go_wp2_with fail
        refine (str_eq2 _ _ _ _ l1 _ HO_x1.out.sl' HO_y1.out.sl' (by omega)).mono ?_
        rintro e w13 ⟨rfl, hb⟩
        replace HR_a0 := Lib.hid (HR_a0.out.below hb)
        replace HR_w0 := Lib.hid (HR_w0.out.below hb)
        replace HR_x0 := Lib.hid (HR_x0.out.below hb)
        replace HR_g0 := Lib.hid (HR_g0.out.below hb)
        replace HO_w0p := Lib.hid (HO_w0p.out.below hb)
        replace HO_w0v := Lib.hid (HO_w0v.out.below hb)
        replace HO_w1 := Lib.hid (HO_w1.out.below hb)
        replace HO_x0p := Lib.hid (HO_x0p.out.below hb)
        replace HO_x0v := Lib.hid (HO_x0v.out.below hb)
        replace HO_x1 := Lib.hid (HO_x1.out.below hb)
        replace HO_g0p := Lib.hid (HO_g0p.out.below hb)
        replace HO_g0v := Lib.hid (HO_g0v.out.below hb)
        replace HO_g1 := Lib.hid (HO_g1.out.below hb)
        replace HO_y1 := Lib.hid (HO_y1.out.below hb)
        have HB13 := Lib.hid (Below_then HB12.out hb (Nat.le_refl _))
        have hz13 := hb.size
        clear hb
        clear HO_y1 HU_y1 HX_y1
        obtain ⟨⟨x0_x0, x1_x0, x2_x0⟩, _, _⟩ := HR_x0.out
        go_wp2_with fail
        refine (markArchive_any _ _ _ _ _ l0 m0 _ 1 _ HO_x0p.out (HO_x0v.out.mono (Nat.le_refl _)) HAP_x0p.out (by omega) (by omega) (by omega)).mono ?_
        rintro e w14 ⟨rfl, hownp, hownq, wm14, hg1, hg2⟩
        have HB14a := Lib.hid (hg1.under HB13.out (fun g hg => by have h1 := HX_x0p.out g hg; have h2 := HB5.out.size; (try simp only [World.alloc_size_] at h1); omega))
        have HB14 := Lib.hid (hg2.under HB14a.out (fun g hg => by have h1 := HX_x0v.out g hg; have h2 := HB5.out.size; (try simp only [World.alloc_size_] at h1); omega))
        have hz14 := Nat.le_trans hg1.size hg2.size
        replace HR_a0 := Lib.hid (HR_a0.out.grew hg1 (fun e => by have h1 := HU_x0p.out _ e; have h2 := HX_x0p.out _ e; (try simp only [World.alloc_size_] at h1 h2); omega))
        replace HR_w0 := Lib.hid (HR_w0.out.grew hg1 (fun e => by have h1 := HU_x0p.out _ e; have h2 := HX_x0p.out _ e; (try simp only [World.alloc_size_] at h1 h2); omega))
        replace HR_x0 := Lib.hid (HR_x0.out.grew hg1 (fun e => by have h1 := HU_x0p.out _ e; have h2 := HX_x0p.out _ e; (try simp only [World.alloc_size_] at h1 h2); omega))
        replace HR_g0 := Lib.hid (HR_g0.out.grew hg1 (fun e => by have h1 := HU_x0p.out _ e; have h2 := HX_x0p.out _ e; (try simp only [World.alloc_size_] at h1 h2); omega))
        replace HO_w0p := Lib.hid (HO_w0p.out.grew hg1 (fun g h1 h2 => by have a1 := HU_x0p.out g h2; have a2 := HX_x0p.out g h2; have a3 := HU_w0p.out g h1; have a4 := HX_w0p.out g h1; (try simp only [World.alloc_size_] at a1 a2 a3 a4); omega))
        replace HO_w0v := Lib.hid (HO_w0v.out.grew hg1 (fun g h1 h2 => by have a1 := HU_x0p.out g h2; have a2 := HX_x0p.out g h2; have a3 := HU_w0v.out g h1; have a4 := HX_w0v.out g h1; (try simp only [World.alloc_size_] at a1 a2 a3 a4); omega))
        replace HO_w1 := Lib.hid (HO_w1.out.grew hg1 (fun g h1 h2 => by have a1 := HU_x0p.out g h2; have a2 := HX_x0p.out g h2; have a3 := HU_w1.out g h1; have a4 := HX_w1.out g h1; (try simp only [World.alloc_size_] at a1 a2 a3 a4); omega))
        replace HO_x1 := Lib.hid (HO_x1.out.grew hg1 (fun g h1 h2 => by have a1 := HU_x0p.out g h2; have a2 := HX_x0p.out g h2; have a3 := HU_x1.out g h1; have a4 := HX_x1.out g h1; (try simp only [World.alloc_size_] at a1 a2 a3 a4); omega))
        replace HO_g0p := Lib.hid (HO_g0p.out.grew hg1 (fun g h1 h2 => by have a1 := HU_x0p.out g h2; have a2 := HX_x0p.out g h2; have a3 := HU_g0p.out g h1; have a4 := HX_g0p.out g h1; (try simp only [World.alloc_size_] at a1 a2 a3 a4); omega))
        replace HO_g0v := Lib.hid (HO_g0v.out.grew hg1 (fun g h1 h2 => by have a1 := HU_x0p.out g h2; have a2 := HX_x0p.out g h2; have a3 := HU_g0v.out g h1; have a4 := HX_g0v.out g h1; (try simp only [World.alloc_size_] at a1 a2 a3 a4); omega))
        replace HO_g1 := Lib.hid (HO_g1.out.grew hg1 (fun g h1 h2 => by have a1 := HU_x0p.out g h2; have a2 := HX_x0p.out g h2; have a3 := HU_g1.out g h1; have a4 := HX_g1.out g h1; (try simp only [World.alloc_size_] at a1 a2 a3 a4); omega))
        replace HR_a0 := Lib.hid (HR_a0.out.grew hg2 (fun e => by have h1 := HU_x0v.out _ e; have h2 := HX_x0v.out _ e; (try simp only [World.alloc_size_] at h1 h2); omega))
        replace HR_w0 := Lib.hid (HR_w0.out.grew hg2 (fun e => by have h1 := HU_x0v.out _ e; have h2 := HX_x0v.out _ e; (try simp only [World.alloc_size_] at h1 h2); omega))
        replace HR_x0 := Lib.hid (HR_x0.out.grew hg2 (fun e => by have h1 := HU_x0v.out _ e; have h2 := HX_x0v.out _ e; (try simp only [World.alloc_size_] at h1 h2); omega))
        replace HR_g0 := Lib.hid (HR_g0.out.grew hg2 (fun e => by have h1 := HU_x0v.out _ e; have h2 := HX_x0v.out _ e; (try simp only [World.alloc_size_] at h1 h2); omega))
        replace HO_w0p := Lib.hid (HO_w0p.out.grew hg2 (fun g h1 h2 => by have a1 := HU_x0v.out g h2; have a2 := HX_x0v.out g h2; have a3 := HU_w0p.out g h1; have a4 := HX_w0p.out g h1; (try simp only [World.alloc_size_] at a1 a2 a3 a4); omega))
        replace HO_w0v := Lib.hid (HO_w0v.out.grew hg2 (fun g h1 h2 => by have a1 := HU_x0v.out g h2; have a2 := HX_x0v.out g h2; have a3 := HU_w0v.out g h1; have a4 := HX_w0v.out g h1; (try simp only [World.alloc_size_] at a1 a2 a3 a4); omega))
        replace HO_w1 := Lib.hid (HO_w1.out.grew hg2 (fun g h1 h2 => by have a1 := HU_x0v.out g h2; have a2 := HX_x0v.out g h2; have a3 := HU_w1.out g h1; have a4 := HX_w1.out g h1; (try simp only [World.alloc_size_] at a1 a2 a3 a4); omega))
        replace HO_x1 := Lib.hid (HO_x1.out.grew hg2 (fun g h1 h2 => by have a1 := HU_x0v.out g h2; have a2 := HX_x0v.out g h2; have a3 := HU_x1.out g h1; have a4 := HX_x1.out g h1; (try simp only [World.alloc_size_] at a1 a2 a3 a4); omega))
        replace HO_g0p := Lib.hid (HO_g0p.out.grew hg2 (fun g h1 h2 => by have a1 := HU_x0v.out g h2; have a2 := HX_x0v.out g h2; have a3 := HU_g0p.out g h1; have a4 := HX_g0p.out g h1; (try simp only [World.alloc_size_] at a1 a2 a3 a4); omega))
        replace HO_g0v := Lib.hid (HO_g0v.out.grew hg2 (fun g h1 h2 => by have a1 := HU_x0v.out g h2; have a2 := HX_x0v.out g h2; have a3 := HU_g0v.out g h1; have a4 := HX_g0v.out g h1; (try simp only [World.alloc_size_] at a1 a2 a3 a4); omega))
        replace HO_g1 := Lib.hid (HO_g1.out.grew hg2 (fun g h1 h2 => by have a1 := HU_x0v.out g h2; have a2 := HX_x0v.out g h2; have a3 := HU_g1.out g h1; have a4 := HX_g1.out g h1; (try simp only [World.alloc_size_] at a1 a2 a3 a4); omega))
        clear hownp hownq hg1 hg2
        clear x0_x0 x1_x0 x2_x0
        clear HO_x0p HU_x0p HX_x0p
        clear HO_x0v HU_x0v HX_x0v
        clear HR_x0
        generalize hK0 : 1 + 2 * l0.length + 3 * m0.length = K0 at *
        have hKb0 : K0 ≤ 10000000 := by omega
        have hKz0 : (0 : Int) ≤ (K0 : Int) := by omega
        have HK0 := Lib.hid hK0
        clear hK0
        go_wp2_with fail
        refine (markStringS_any _ _ l1 K0 _ HO_x1.out (by omega) (by omega)).mono ?_
        rintro e w15 ⟨rfl, hown, hgr⟩
        have HB15 := Lib.hid (hgr.under HB14.out (fun g hg => by have h1 := HX_x1.out g hg; have h2 := HB6.out.size; (try simp only [World.alloc_size_] at h1); omega))
        have hz15 := hgr.size
        replace HR_a0 := Lib.hid (HR_a0.out.grew hgr (fun e => by have h1 := HU_x1.out _ e; have h2 := HX_x1.out _ e; (try simp only [World.alloc_size_] at h1 h2); omega))
        replace HR_w0 := Lib.hid (HR_w0.out.grew hgr (fun e => by have h1 := HU_x1.out _ e; have h2 := HX_x1.out _ e; (try simp only [World.alloc_size_] at h1 h2); omega))
        replace HR_g0 := Lib.hid (HR_g0.out.grew hgr (fun e => by have h1 := HU_x1.out _ e; have h2 := HX_x1.out _ e; (try simp only [World.alloc_size_] at h1 h2); omega))
        replace HO_w0p := Lib.hid (HO_w0p.out.grew hgr (fun g h1 h2 => by have a1 := HU_x1.out g h2; have a2 := HX_x1.out g h2; have a3 := HU_w0p.out g h1; have a4 := HX_w0p.out g h1; (try simp only [World.alloc_size_] at a1 a2 a3 a4); omega))
        replace HO_w0v := Lib.hid (HO_w0v.out.grew hgr (fun g h1 h2 => by have a1 := HU_x1.out g h2; have a2 := HX_x1.out g h2; have a3 := HU_w0v.out g h1; have a4 := HX_w0v.out g h1; (try simp only [World.alloc_size_] at a1 a2 a3 a4); omega))
        replace HO_w1 := Lib.hid (HO_w1.out.grew hgr (fun g h1 h2 => by have a1 := HU_x1.out g h2; have a2 := HX_x1.out g h2; have a3 := HU_w1.out g h1; have a4 := HX_w1.out g h1; (try simp only [World.alloc_size_] at a1 a2 a3 a4); omega))
        replace HO_g0p := Lib.hid (HO_g0p.out.grew hgr (fun g h1 h2 => by have a1 := HU_x1.out g h2; have a2 := HX_x1.out g h2; have a3 := HU_g0p.out g h1; have a4 := HX_g0p.out g h1; (try simp only [World.alloc_size_] at a1 a2 a3 a4); omega))
        replace HO_g0v := Lib.hid (HO_g0v.out.grew hgr (fun g h1 h2 => by have a1 := HU_x1.out g h2; have a2 := HX_x1.out g h2; have a3 := HU_g0v.out g h1; have a4 := HX_g0v.out g h1; (try simp only [World.alloc_size_] at a1 a2 a3 a4); omega))
        replace HO_g1 := Lib.hid (HO_g1.out.grew hgr (fun g h1 h2 => by have a1 := HU_x1.out g h2; have a2 := HX_x1.out g h2; have a3 := HU_g1.out g h1; have a4 := HX_g1.out g h1; (try simp only [World.alloc_size_] at a1 a2 a3 a4); omega))
        clear HO_x1 HU_x1 HX_x1
        clear hgr hown
        generalize hK1 : K0 + l1.length = K1 at *
        have hKb1 : K1 ≤ 20000000 := by omega
        have hKz1 : (0 : Int) ≤ (K1 : Int) := by omega
        have HK1 := Lib.hid hK1
        clear hK1
        obtain ⟨⟨x0_g0, x1_g0, x2_g0⟩, _, _⟩ := HR_g0.out
        obtain ⟨⟨x0_w0, x1_w0, x2_w0⟩, _, _⟩ := HR_w0.out
        go_wp2_with fail
        refine (eqArchive_same _ _ _ _ _ _ _ _ Rp Rv _ _ HO_g0p.out.sl' HO_w0p.out.sl' (by omega) HO_g0v.out.sl' HO_w0v.out.sl' (by omega)).mono ?_
        rintro e w16 ⟨rfl, hb⟩
        replace HR_a0 := Lib.hid (HR_a0.out.below hb)
        replace HR_w0 := Lib.hid (HR_w0.out.below hb)
        replace HR_g0 := Lib.hid (HR_g0.out.below hb)
        replace HO_w0p := Lib.hid (HO_w0p.out.below hb)
        replace HO_w0v := Lib.hid (HO_w0v.out.below hb)
        replace HO_w1 := Lib.hid (HO_w1.out.below hb)
        replace HO_g0p := Lib.hid (HO_g0p.out.below hb)
        replace HO_g0v := Lib.hid (HO_g0v.out.below hb)
        replace HO_g1 := Lib.hid (HO_g1.out.below hb)
        have HB16 := Lib.hid (Below_then HB15.out hb (Nat.le_refl _))
        have hz16 := hb.size
        clear x0_g0 x1_g0 x2_g0 x0_w0 x1_w0 x2_w0
        clear hb
        go_wp2_with fail
        refine (str_eq2 _ _ _ _ Rs _ HO_g1.out.sl' HO_w1.out.sl' (by omega)).mono ?_
        rintro e w17 ⟨rfl, hb⟩
        replace HR_a0 := Lib.hid (HR_a0.out.below hb)
        replace HR_w0 := Lib.hid (HR_w0.out.below hb)
        replace HR_g0 := Lib.hid (HR_g0.out.below hb)
        replace HO_w0p := Lib.hid (HO_w0p.out.below hb)
        replace HO_w0v := Lib.hid (HO_w0v.out.below hb)
        replace HO_w1 := Lib.hid (HO_w1.out.below hb)
        replace HO_g0p := Lib.hid (HO_g0p.out.below hb)
        replace HO_g0v := Lib.hid (HO_g0v.out.below hb)
        replace HO_g1 := Lib.hid (HO_g1.out.below hb)
        have HB17 := Lib.hid (Below_then HB16.out hb (Nat.le_refl _))
        have hz17 := hb.size
        clear hb
        obtain ⟨⟨x0_g0, x1_g0, x2_g0⟩, _, _⟩ := HR_g0.out
        go_wp2_with fail
        refine (markArchive_any _ _ _ _ _ Rp Rv _ 1 _ HO_g0p.out (HO_g0v.out.mono (Nat.le_refl _)) HAP_g0p.out (by omega) (by omega) (by omega)).mono ?_
        rintro e w18 ⟨rfl, hownp, hownq, wm18, hg1, hg2⟩
        have HB18a := Lib.hid (hg1.under HB17.out (fun g hg => by have h1 := HX_g0p.out g hg; have h2 := HB7.out.size; (try simp only [World.alloc_size_] at h1); omega))
        have HB18 := Lib.hid (hg2.under HB18a.out (fun g hg => by have h1 := HX_g0v.out g hg; have h2 := HB7.out.size; (try simp only [World.alloc_size_] at h1); omega))
        have hz18 := Nat.le_trans hg1.size hg2.size
        replace HR_a0 := Lib.hid (HR_a0.out.grew hg1 (fun e => by have h1 := HU_g0p.out _ e; have h2 := HX_g0p.out _ e; (try simp only [World.alloc_size_] at h1 h2); omega))
        replace HR_w0 := Lib.hid (HR_w0.out.grew hg1 (fun e => by have h1 := HU_g0p.out _ e; have h2 := HX_g0p.out _ e; (try simp only [World.alloc_size_] at h1 h2); omega))
        replace HR_g0 := Lib.hid (HR_g0.out.grew hg1 (fun e => by have h1 := HU_g0p.out _ e; have h2 := HX_g0p.out _ e; (try simp only [World.alloc_size_] at h1 h2); omega))
        replace HO_w0p := Lib.hid (HO_w0p.out.grew hg1 (fun g h1 h2 => by have a1 := HU_g0p.out g h2; have a2 := HX_g0p.out g h2; have a3 := HU_w0p.out g h1; have a4 := HX_w0p.out g h1; (try simp only [World.alloc_size_] at a1 a2 a3 a4); omega))
        replace HO_w0v := Lib.hid (HO_w0v.out.grew hg1 (fun g h1 h2 => by have a1 := HU_g0p.out g h2; have a2 := HX_g0p.out g h2; have a3 := HU_w0v.out g h1; have a4 := HX_w0v.out g h1; (try simp only [World.alloc_size_] at a1 a2 a3 a4); omega))
        replace HO_w1 := Lib.hid (HO_w1.out.grew hg1 (fun g h1 h2 => by have a1 := HU_g0p.out g h2; have a2 := HX_g0p.out g h2; have a3 := HU_w1.out g h1; have a4 := HX_w1.out g h1; (try simp only [World.alloc_size_] at a1 a2 a3 a4); omega))
        replace HO_g1 := Lib.hid (HO_g1.out.grew hg1 HAPU_g0p.out.symm)
        replace HR_a0 := Lib.hid (HR_a0.out.grew hg2 (fun e => by have h1 := HU_g0v.out _ e; have h2 := HX_g0v.out _ e; (try simp only [World.alloc_size_] at h1 h2); omega))
        replace HR_w0 := Lib.hid (HR_w0.out.grew hg2 (fun e => by have h1 := HU_g0v.out _ e; have h2 := HX_g0v.out _ e; (try simp only [World.alloc_size_] at h1 h2); omega))
        replace HR_g0 := Lib.hid (HR_g0.out.grew hg2 (fun e => by have h1 := HU_g0v.out _ e; have h2 := HX_g0v.out _ e; (try simp only [World.alloc_size_] at h1 h2); omega))
        replace HO_w0p := Lib.hid (HO_w0p.out.grew hg2 (fun g h1 h2 => by have a1 := HU_g0v.out g h2; have a2 := HX_g0v.out g h2; have a3 := HU_w0p.out g h1; have a4 := HX_w0p.out g h1; (try simp only [World.alloc_size_] at a1 a2 a3 a4); omega))
        replace HO_w0v := Lib.hid (HO_w0v.out.grew hg2 (fun g h1 h2 => by have a1 := HU_g0v.out g h2; have a2 := HX_g0v.out g h2; have a3 := HU_w0v.out g h1; have a4 := HX_w0v.out g h1; (try simp only [World.alloc_size_] at a1 a2 a3 a4); omega))
        replace HO_w1 := Lib.hid (HO_w1.out.grew hg2 (fun g h1 h2 => by have a1 := HU_g0v.out g h2; have a2 := HX_g0v.out g h2; have a3 := HU_w1.out g h1; have a4 := HX_w1.out g h1; (try simp only [World.alloc_size_] at a1 a2 a3 a4); omega))
        replace HO_g1 := Lib.hid (HO_g1.out.grew hg2 HAPU_g0v.out.symm)
        replace HO_g0p := Lib.hid hownp
        replace HO_g0v := Lib.hid hownq
        clear hownp hownq hg1 hg2
        clear x0_g0 x1_g0 x2_g0
        generalize hM0 : 1 + 2 * Rp.length + 3 * Rv.length = M0 at *
        have hMb0 : M0 ≤ 10000000 := by omega
        have hMz0 : (0 : Int) ≤ (M0 : Int) := by omega
        have HMM0 := Lib.hid hM0
        clear hM0
        go_wp2_with fail
        refine (markStringS_any _ _ Rs M0 _ HO_g1.out (by omega) (by omega)).mono ?_
        rintro e w19 ⟨rfl, hown, hgr⟩
        have HB19 := Lib.hid (hgr.under HB18.out (fun g hg => by have h1 := HX_g1.out g hg; have h2 := HB7.out.size; (try simp only [World.alloc_size_] at h1); omega))
        have hz19 := hgr.size
        replace HR_a0 := Lib.hid (HR_a0.out.grew hgr (fun e => by have h1 := HU_g1.out _ e; have h2 := HX_g1.out _ e; (try simp only [World.alloc_size_] at h1 h2); omega))
        replace HR_w0 := Lib.hid (HR_w0.out.grew hgr (fun e => by have h1 := HU_g1.out _ e; have h2 := HX_g1.out _ e; (try simp only [World.alloc_size_] at h1 h2); omega))
        replace HR_g0 := Lib.hid (HR_g0.out.grew hgr (fun e => by have h1 := HU_g1.out _ e; have h2 := HX_g1.out _ e; (try simp only [World.alloc_size_] at h1 h2); omega))
        replace HO_w0p := Lib.hid (HO_w0p.out.grew hgr (fun g h1 h2 => by have a1 := HU_g1.out g h2; have a2 := HX_g1.out g h2; have a3 := HU_w0p.out g h1; have a4 := HX_w0p.out g h1; (try simp only [World.alloc_size_] at a1 a2 a3 a4); omega))
        replace HO_w0v := Lib.hid (HO_w0v.out.grew hgr (fun g h1 h2 => by have a1 := HU_g1.out g h2; have a2 := HX_g1.out g h2; have a3 := HU_w0v.out g h1; have a4 := HX_w0v.out g h1; (try simp only [World.alloc_size_] at a1 a2 a3 a4); omega))
        replace HO_w1 := Lib.hid (HO_w1.out.grew hgr (fun g h1 h2 => by have a1 := HU_g1.out g h2; have a2 := HX_g1.out g h2; have a3 := HU_w1.out g h1; have a4 := HX_w1.out g h1; (try simp only [World.alloc_size_] at a1 a2 a3 a4); omega))
        replace HO_g0p := Lib.hid (HO_g0p.out.grew hgr HAPU_g0p.out)
        replace HO_g0v := Lib.hid (HO_g0v.out.grew hgr HAPU_g0v.out)
        replace HO_g1 := Lib.hid hown
        clear hgr hown
        generalize hM1 : M0 + Rs.length = M1 at *
        have hMb1 : M1 ≤ 20000000 := by omega
        have hMz1 : (0 : Int) ≤ (M1 : Int) := by omega
        have HMM1 := Lib.hid hM1
        clear hM1
        obtain ⟨⟨x0_g0, x1_g0, x2_g0⟩, _, _⟩ := HR_g0.out
        go_wp2_with fail
        refine (heldArchive_any _ _ _ _ Rp.length Rv.length _ 1 _ HO_g0p.out.slm HO_g0v.out.slm (by omega) (by omega) (by omega)).mono ?_
        rintro e w20 ⟨rfl, hb⟩
        replace HR_a0 := Lib.hid (HR_a0.out.below hb)
        replace HR_w0 := Lib.hid (HR_w0.out.below hb)
        replace HR_g0 := Lib.hid (HR_g0.out.below hb)
        replace HO_w0p := Lib.hid (HO_w0p.out.below hb)
        replace HO_w0v := Lib.hid (HO_w0v.out.below hb)
        replace HO_w1 := Lib.hid (HO_w1.out.below hb)
        replace HO_g0p := Lib.hid (HO_g0p.out.below hb)
        replace HO_g0v := Lib.hid (HO_g0v.out.below hb)
        replace HO_g1 := Lib.hid (HO_g1.out.below hb)
        have HB20 := Lib.hid (Below_then HB19.out hb (Nat.le_refl _))
        have hz20 := hb.size
        clear x0_g0 x1_g0 x2_g0
        clear hb
        rw [HMM0.out]
        go_wp2_with fail
        refine (heldStringS_any _ _ M0 _ _ HO_g1.out.sl' (by omega) (by omega)).mono ?_
        rintro e w21 ⟨rfl, hb⟩
        replace HR_a0 := Lib.hid (HR_a0.out.below hb)
        replace HR_w0 := Lib.hid (HR_w0.out.below hb)
        replace HR_g0 := Lib.hid (HR_g0.out.below hb)
        replace HO_w0p := Lib.hid (HO_w0p.out.below hb)
        replace HO_w0v := Lib.hid (HO_w0v.out.below hb)
        replace HO_w1 := Lib.hid (HO_w1.out.below hb)
        replace HO_g0p := Lib.hid (HO_g0p.out.below hb)
        replace HO_g0v := Lib.hid (HO_g0v.out.below hb)
        replace HO_g1 := Lib.hid (HO_g1.out.below hb)
        have HB21 := Lib.hid (Below_then HB20.out hb (Nat.le_refl _))
        have hz21 := hb.size
        clear hb
        rw [HMM1.out]
        obtain ⟨⟨x0_a0, x1_a0, x2_a0⟩, _, _⟩ := HR_a0.out
        go_wp2_with fail
        refine (toArchive_any _ _ _ _ l0 m0 x0 _ (HS0.out.below HB21.out) (by omega) (HT0.out.below HB21.out) (by omega)).mono ?_
        rintro e w22 ⟨p, q, rfl, hownp, hownq, hap, hb⟩
        replace HR_a0 := Lib.hid (HR_a0.out.below hb)
        replace HR_w0 := Lib.hid (HR_w0.out.below hb)
        replace HR_g0 := Lib.hid (HR_g0.out.below hb)
        replace HO_w0p := Lib.hid (HO_w0p.out.below hb)
        replace HO_w0v := Lib.hid (HO_w0v.out.below hb)
        replace HO_w1 := Lib.hid (HO_w1.out.below hb)
        replace HO_g0p := Lib.hid (HO_g0p.out.below hb)
        replace HO_g0v := Lib.hid (HO_g0v.out.below hb)
        replace HO_g1 := Lib.hid (HO_g1.out.below hb)
        have HB22 := Lib.hid (Below_then HB21.out hb (Nat.le_refl _))
        have hz22 := hb.size
        clear x0_a0 x1_a0 x2_a0
        obtain ⟨X_z0p, d_z0p, rfl, hle_z0p, _, _⟩ := hownp.sl
        have HU_z0p := Lib.hid hownp.up
        have HX_z0p := Lib.hid hownp.lo
        have HO_z0p := Lib.hid hownp
        obtain ⟨X_z0v, d_z0v, rfl, hle_z0v, _, _⟩ := hownq.sl
        have HU_z0v := Lib.hid hownq.up
        have HX_z0v := Lib.hid hownq.lo
        have HO_z0v := Lib.hid hownq
        have HAP_z0p := Lib.hid hap
        clear hb hownp hownq hap
        go_wp2_with fail
        refine (str_to _ _ _ _ (HS1.out.below HB22.out) (by omega)).mono ?_
        rintro e w23 ⟨v, rfl, hown, hb⟩
        replace HR_a0 := Lib.hid (HR_a0.out.below hb)
        replace HR_w0 := Lib.hid (HR_w0.out.below hb)
        replace HR_g0 := Lib.hid (HR_g0.out.below hb)
        replace HO_w0p := Lib.hid (HO_w0p.out.below hb)
        replace HO_w0v := Lib.hid (HO_w0v.out.below hb)
        replace HO_w1 := Lib.hid (HO_w1.out.below hb)
        replace HO_g0p := Lib.hid (HO_g0p.out.below hb)
        replace HO_g0v := Lib.hid (HO_g0v.out.below hb)
        replace HO_g1 := Lib.hid (HO_g1.out.below hb)
        replace HO_z0p := Lib.hid (HO_z0p.out.below hb)
        replace HO_z0v := Lib.hid (HO_z0v.out.below hb)
        have HB23 := Lib.hid (Below_then HB22.out hb (Nat.le_refl _))
        have hz23 := hb.size
        obtain ⟨X_z1, d_z1, rfl, hle_z1, _, _⟩ := hown.sl
        have HU_z1 := Lib.hid hown.up
        have HX_z1 := Lib.hid hown.lo
        have HO_z1 := Lib.hid hown
        clear hb hown
        go_wp2_with fail
        refine (HCI.out _ _ _ _ _ _ _ HO_z0p.out.sl' HO_z0p.out.cz HO_z0v.out.sl' HO_z0v.out.cz HO_z1.out.sl' (HTZ.out.below HB23.out) (HMX.out.below HB23.out)).mono ?_
        rintro e w24 ⟨p, q, v, rfl, hownp, hownq, hown1, hap, hap2, hap3, hb⟩
        replace HR_a0 := Lib.hid (HR_a0.out.below hb)
        replace HR_w0 := Lib.hid (HR_w0.out.below hb)
        replace HR_g0 := Lib.hid (HR_g0.out.below hb)
        replace HO_w0p := Lib.hid (HO_w0p.out.below hb)
        replace HO_w0v := Lib.hid (HO_w0v.out.below hb)
        replace HO_w1 := Lib.hid (HO_w1.out.below hb)
        replace HO_g0p := Lib.hid (HO_g0p.out.below hb)
        replace HO_g0v := Lib.hid (HO_g0v.out.below hb)
        replace HO_g1 := Lib.hid (HO_g1.out.below hb)
        replace HO_z0p := Lib.hid (HO_z0p.out.below hb)
        replace HO_z0v := Lib.hid (HO_z0v.out.below hb)
        replace HO_z1 := Lib.hid (HO_z1.out.below hb)
        have HB24 := Lib.hid (Below_then HB23.out hb (Nat.le_refl _))
        have hz24 := hb.size
        obtain ⟨X_h0p, d_h0p, rfl, hle_h0p, _, _⟩ := hownp.sl
        have HU_h0p := Lib.hid hownp.up
        have HX_h0p := Lib.hid hownp.lo
        have HO_h0p := Lib.hid hownp
        obtain ⟨X_h0v, d_h0v, rfl, hle_h0v, _, _⟩ := hownq.sl
        have HU_h0v := Lib.hid hownq.up
        have HX_h0v := Lib.hid hownq.lo
        have HO_h0v := Lib.hid hownq
        have HAP_h0p := Lib.hid hap
        clear hownp hownq hap
        obtain ⟨X_h1, d_h1, rfl, hle_h1, _, _⟩ := hown1.sl
        have HU_h1 := Lib.hid hown1.up
        have HX_h1 := Lib.hid hown1.lo
        have HO_h1 := Lib.hid hown1
        clear hown1
        have HAPU_h0p := Lib.hid hap2
        have HAPU_h0v := Lib.hid hap3
        clear hap2 hap3
        clear hb
        clear HO_z0p HU_z0p HX_z0p
        clear HO_z0v HU_z0v HX_z0v
        clear HO_z1 HU_z1 HX_z1
        obtain ⟨⟨x0_w0, x1_w0, x2_w0⟩, _, _⟩ := (HR_w0.out.below ((Below.refl _ _).alloc (Nat.le_refl _) (.cells #[.slice X_h0p Rp.length d_h0p, .int .i64 Ro, .slice X_h0v Rv.length d_h0v] 30)))
        go_wp2_with fail
        refine (eqArchive_same _ _ _ _ _ _ _ _ Rp Rv _ _ (HO_h0p.out.alloc _).sl' (HO_w0p.out.alloc _).sl' (by omega) (HO_h0v.out.alloc _).sl' (HO_w0v.out.alloc _).sl' (by omega)).mono ?_
        rintro e w25 ⟨rfl, hb⟩
        have HR_h0 := Lib.hid (Row3.new.below hb)
        replace HR_a0 := Lib.hid (HR_a0.out.below (Below_of_alloc hb))
        replace HR_w0 := Lib.hid (HR_w0.out.below (Below_of_alloc hb))
        replace HR_g0 := Lib.hid (HR_g0.out.below (Below_of_alloc hb))
        replace HO_w0p := Lib.hid (HO_w0p.out.below (Below_of_alloc hb))
        replace HO_w0v := Lib.hid (HO_w0v.out.below (Below_of_alloc hb))
        replace HO_w1 := Lib.hid (HO_w1.out.below (Below_of_alloc hb))
        replace HO_g0p := Lib.hid (HO_g0p.out.below (Below_of_alloc hb))
        replace HO_g0v := Lib.hid (HO_g0v.out.below (Below_of_alloc hb))
        replace HO_g1 := Lib.hid (HO_g1.out.below (Below_of_alloc hb))
        replace HO_h0p := Lib.hid (HO_h0p.out.below (Below_of_alloc hb))
        replace HO_h0v := Lib.hid (HO_h0v.out.below (Below_of_alloc hb))
        replace HO_h1 := Lib.hid (HO_h1.out.below (Below_of_alloc hb))
        have HB25 := Lib.hid (Below_then HB24.out (Below_of_alloc hb) (Nat.le_refl _))
        have hz25 := hb.size
        simp only [World.alloc_size_] at hz25
        clear x0_w0 x1_w0 x2_w0
        clear hb
        go_wp2_with fail
        refine (str_eq2 _ _ _ _ Rs _ HO_h1.out.sl' HO_w1.out.sl' (by omega)).mono ?_
        rintro e w26 ⟨rfl, hb⟩
        replace HR_a0 := Lib.hid (HR_a0.out.below hb)
        replace HR_w0 := Lib.hid (HR_w0.out.below hb)
        replace HR_g0 := Lib.hid (HR_g0.out.below hb)
        replace HR_h0 := Lib.hid (HR_h0.out.below hb)
        replace HO_w0p := Lib.hid (HO_w0p.out.below hb)
        replace HO_w0v := Lib.hid (HO_w0v.out.below hb)
        replace HO_w1 := Lib.hid (HO_w1.out.below hb)
        replace HO_g0p := Lib.hid (HO_g0p.out.below hb)
        replace HO_g0v := Lib.hid (HO_g0v.out.below hb)
        replace HO_g1 := Lib.hid (HO_g1.out.below hb)
        replace HO_h0p := Lib.hid (HO_h0p.out.below hb)
        replace HO_h0v := Lib.hid (HO_h0v.out.below hb)
        replace HO_h1 := Lib.hid (HO_h1.out.below hb)
        have HB26 := Lib.hid (Below_then HB25.out hb (Nat.le_refl _))
        have hz26 := hb.size
        clear hb
        obtain ⟨⟨x0_g0, x1_g0, x2_g0⟩, _, _⟩ := HR_g0.out
        go_wp2_with fail
        refine (heldArchive_any _ _ _ _ Rp.length Rv.length _ 1 _ HO_g0p.out.slm HO_g0v.out.slm (by omega) (by omega) (by omega)).mono ?_
        rintro e w27 ⟨rfl, hb⟩
        replace HR_a0 := Lib.hid (HR_a0.out.below hb)
        replace HR_w0 := Lib.hid (HR_w0.out.below hb)
        replace HR_g0 := Lib.hid (HR_g0.out.below hb)
        replace HR_h0 := Lib.hid (HR_h0.out.below hb)
        replace HO_w0p := Lib.hid (HO_w0p.out.below hb)
        replace HO_w0v := Lib.hid (HO_w0v.out.below hb)
        replace HO_w1 := Lib.hid (HO_w1.out.below hb)
        replace HO_g0p := Lib.hid (HO_g0p.out.below hb)
        replace HO_g0v := Lib.hid (HO_g0v.out.below hb)
        replace HO_g1 := Lib.hid (HO_g1.out.below hb)
        replace HO_h0p := Lib.hid (HO_h0p.out.below hb)
        replace HO_h0v := Lib.hid (HO_h0v.out.below hb)
        replace HO_h1 := Lib.hid (HO_h1.out.below hb)
        have HB27 := Lib.hid (Below_then HB26.out hb (Nat.le_refl _))
        have hz27 := hb.size
        clear x0_g0 x1_g0 x2_g0
        clear hb
        rw [HMM0.out]
        go_wp2_with fail
        refine (heldStringS_any _ _ M0 _ _ HO_g1.out.sl' (by omega) (by omega)).mono ?_
        rintro e w28 ⟨rfl, hb⟩
        replace HR_a0 := Lib.hid (HR_a0.out.below hb)
        replace HR_w0 := Lib.hid (HR_w0.out.below hb)
        replace HR_g0 := Lib.hid (HR_g0.out.below hb)
        replace HR_h0 := Lib.hid (HR_h0.out.below hb)
        replace HO_w0p := Lib.hid (HO_w0p.out.below hb)
        replace HO_w0v := Lib.hid (HO_w0v.out.below hb)
        replace HO_w1 := Lib.hid (HO_w1.out.below hb)
        replace HO_g0p := Lib.hid (HO_g0p.out.below hb)
        replace HO_g0v := Lib.hid (HO_g0v.out.below hb)
        replace HO_g1 := Lib.hid (HO_g1.out.below hb)
        replace HO_h0p := Lib.hid (HO_h0p.out.below hb)
        replace HO_h0v := Lib.hid (HO_h0v.out.below hb)
        replace HO_h1 := Lib.hid (HO_h1.out.below hb)
        have HB28 := Lib.hid (Below_then HB27.out hb (Nat.le_refl _))
        have hz28 := hb.size
        clear hb
        rw [HMM1.out]
        go_wp2
        go_ret
        exact ⟨rfl, HB28.out⟩
end Go.Proofs.YtkglfmgmmnfmbaaGreatDoor
