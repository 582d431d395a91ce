/- ArchiveLine of the reference, walked. Written by gen_al.py (al_head.txt). -/
import Derived.Test.YtkglfmgmmnfmbaaDoorGb9
import Derived.Test.YtkglfmgmmnfmbaaDoorGb1
import Derived.Test.YtkglfmgmmnfmbaaDoorGc1
import Derived.Test.YtkglfmgmmnfmbaaDoorS3
import Derived.Test.YtkglfmgmmnfmbaaDoorGa9
import Derived.Test.YtkglfmgmmnfmbaaDoorWk4
import Derived.Test.YtkglfmgmmnfmbaaDoorGb2
set_option linter.unusedVariables false
namespace Go.Proofs.YtkglfmgmmnfmbaaDoor
open Go.RowKit
set_option maxHeartbeats 16000000 in
set_option maxRecDepth 100000 in
theorem sArchiveLine_any (A B : Option Addr) (c dd : Nat) (l : List Pc) (m : List Vr) (x : Int) (line : ByteArray) (w : World) (hs : Sl w encP 2 A l) (hcz : A = none → c = 0) (hle : l.length ≤ c) (hl : l.length ≤ 16777216) (hf : FitP l) (ht : Sl w encV 3 B m) (hcz2 : B = none → dd = 0) (hl2 : m.length ≤ 16777216) (hf2 : FitV m) (hline : line.size ≤ 1048576) :
    Calls Tryd.prog 36 #[.agg #[.slice A l.length c, .int .i64 x, .slice B m.length dd], .string line] w (AlRes (archL ⟨l, x, m⟩ (bs line)) w) := by
  have HS := Lib.hid hs
  have HT := Lib.hid ht
  have HCZ := Lib.hid hcz
  have HCZ2 := Lib.hid hcz2
  have HFP := Lib.hid hf
  have HFV := Lib.hid hf2
  have hAV := fun W h h2 => sArchiveValid_any A B c dd l m x W h hl hf h2 hl2 hf2
  clear hs ht hcz hcz2 hf hf2
  cases hv : archV ⟨l, x, m⟩
  · have HR := Lib.hid (archL_bad hv (bs line))
    rw [hv] at hAV
    have HAV := Lib.hid hAV
    clear hAV hv
    generalize archL ⟨l, x, m⟩ (bs line) = R at *
    go_enter Tryd.func36, Tryd.ntmps36
    go_wp2_with fail
    refine (HAV.out _ ((HS.out.alloc _).alloc _) ((HT.out.alloc _).alloc _)).mono ?_
    rintro e w1 ⟨rfl, hb1⟩
    have hr1 := Row3.new.below hb1
    rw [World.alloc_size_] at hr1
    obtain ⟨⟨y0', y1', y2'⟩, yf, _⟩ := hr1
    have HB1 := Lib.hid (Below_of_alloc (Below_of_alloc hb1))
    clear hb1
    go_wp2_with fail
    exact bodyPost_ret (v := .tuple #[.agg #[.slice none 0 0, .int .i64 0, .slice none 0 0], .string ⟨#[]⟩]) (by simp [results, Tryd.results36, go_sem, y0', y1', y2']) rfl (AlRes.mk_ HR.out rfl (ar_end HB1.out Own.nil Own.nil (ApartV.nil _)))
  · obtain ⟨hsv, hvv, _, _⟩ := archV_iff.1 hv
    have hl40 : l.length ≤ 40 := storeV_len hsv
    have hm12 : m.length ≤ 12 := versV_len hvv
    have HA0 := Lib.hid (show archL ⟨l, x, m⟩ (bs line) = lineA ⟨l, x, m⟩ (splitS 32 (bs line)) by unfold archL; rw [if_pos hv])
    rw [hv] at hAV
    have HAV := Lib.hid hAV
    have HCP := Lib.hid (fun W h h2 => sl34Copy_any A B c dd l m x W h HCZ.out hl h2 HCZ2.out hl2)
    have hLW := fun W => sl34Words_any line W hline
    unfold OwnRes at hLW
    have HSZ := Lib.hid (show ∀ y ∈ (splitS 32 (bs line)).map mk, y.size ≤ 1048576 by rw [← wdB_all]; exact fun y hy => Nat.le_trans ((wdB_len line _ (Nat.le_refl _)).2.2 y hy) hline)
    have HL0 := Lib.hid (fun p (h : splitS 32 (bs line) = [p]) => show tx line = p from split_one h)
    have HE6 := Lib.hid (fun (e : tx line = wFiles) => show (splitS 32 (bs line)).length = 1 by rw [show bs line = wFiles from e]; decide)
    have HNE := Lib.hid (splitS_ne 32 (bs line))
    have HMT := Lib.hid (map_tx_mk (splitS 32 (bs line)))
    clear hAV hv hsv hvv
    generalize archL ⟨l, x, m⟩ (bs line) = R at *
    generalize splitS 32 (bs line) = SPL at *
    generalize SPL.map mk = WL at *
    have HLW := Lib.hid hLW
    clear hLW
    go_enter Tryd.func36, Tryd.ntmps36
    go_wp2_with fail
    refine (HAV.out _ ((HS.out.alloc _).alloc _) ((HT.out.alloc _).alloc _)).mono ?_
    rintro e w1 ⟨rfl, hb1⟩
    have hr0 := Row3.new.below (w' := w1) (Below_of_alloc hb1)
    have hr1 := Row3.new.below hb1
    rw [World.alloc_size_] at hr1
    have HB1 := Lib.hid (Below_of_alloc (Below_of_alloc hb1))
    have hz1 : w.heap.size + 2 ≤ w1.heap.size := by have := hb1.size; simp at this; omega
    have HR0 := Lib.hid hr0
    have HR1 := Lib.hid hr1
    obtain ⟨⟨a0, a1, a2⟩, _, _⟩ := hr0
    clear hb1 hr1
    go_wp2_with fail
    refine (HCP.out _ (HS.out.below HB1.out) (HT.out.below HB1.out)).mono ?_
    rintro e w2 ⟨v2, rfl, ⟨SP, SQ, rfl, hsp2, hsq2, hap2⟩, hb2⟩
    replace HR0 := Lib.hid (HR0.out.below hb2)
    replace HR1 := Lib.hid (HR1.out.below hb2)
    have HB2 := Lib.hid (Below_then HB1.out hb2 (Nat.le_refl _))
    have hz2 : w1.heap.size ≤ w2.heap.size := hb2.size
    obtain ⟨P1, k1, e1, _⟩ := hsp2.sl
    obtain ⟨Q1, j1, e2, _⟩ := hsq2.sl
    subst e1 e2
    have HSP := Lib.hid hsp2
    have HSQ := Lib.hid hsq2
    have HAPS := Lib.hid hap2
    clear hb2 hsp2 hsq2 hap2 a0 a1 a2
    obtain ⟨⟨a0, a1, a2⟩, _, _⟩ := HR0.out
    have z0 := fun o => cell_alloc (x := o) a0
    have z1 := fun o => cell_alloc (x := o) a1
    have z2 := fun o => cell_alloc (x := o) a2
    go_wp2_with fail
    refine (HCP.out _ ((HS.out.below HB2.out).alloc _) ((HT.out.below HB2.out).alloc _)).mono ?_
    rintro e w3 ⟨v3, rfl, ⟨OP, OQ, rfl, hop3, hoq3, hap3⟩, hb3⟩
    obtain ⟨P2, k2, e1, _⟩ := hop3.sl
    obtain ⟨Q2, j2, e2, _⟩ := hoq3.sl
    subst e1 e2
    have hr2 := Row3.new.below hb3
    replace HR0 := Lib.hid (HR0.out.below (Below_of_alloc hb3))
    replace HR1 := Lib.hid (HR1.out.below (Below_of_alloc hb3))
    have HR2 := Lib.hid hr2
    have HB3 := Lib.hid (Below_then HB2.out (Below_of_alloc hb3) (Nat.le_refl _))
    have hz3 : w2.heap.size + 1 ≤ w3.heap.size := by have := hb3.size; simp at this; omega
    have hnsp : Value.ownBlock (.slice P1 l.length k1) ≠ some w3.heap.size := fun e => by have := (HSP.out.blk _ e).2; omega
    have hnsq : Value.ownBlock (.slice Q1 m.length j1) ≠ some w3.heap.size := fun e => by have := (HSQ.out.blk _ e).2; omega
    have hnop : Value.ownBlock (.slice P2 l.length k2) ≠ some w3.heap.size := fun e => by have := (hop3.blk _ e).2; omega
    have hnoq : Value.ownBlock (.slice Q2 m.length j2) ≠ some w3.heap.size := fun e => by have := (hoq3.blk _ e).2; omega
    replace HSP := Lib.hid ((HSP.out.below (Below_of_alloc hb3)).mono hz1)
    replace HSQ := Lib.hid ((HSQ.out.below (Below_of_alloc hb3)).mono hz1)
    have HOP := Lib.hid (hop3.mono (show w.heap.size + 2 ≤ _ by simp; omega))
    have HOQ := Lib.hid (hoq3.mono (show w.heap.size + 2 ≤ _ by simp; omega))
    have HAPO := Lib.hid hap3
    clear hb3 hr2 hop3 hoq3 hap3 a0 a1 a2 z0 z1 z2
    go_wp2_with fail
    refine (HLW.out _).mono ?_
    rintro e w4 ⟨vw, rfl, hownw, hb4⟩
    have H4R := Lib.hid (Row3.new.below hb4)
    have H4 := Lib.hid (show AlS w (.slice A l.length c) (.slice B m.length dd) x w2.heap.size w3.heap.size (.slice P1 l.length k1) (.slice Q1 m.length j1) (.slice P2 l.length k2) (.slice Q2 m.length j2) l m w4 from
      ⟨Below_then HB3.out (Below_of_alloc hb4) (Nat.le_refl _), HR0.out.below (Below_of_alloc hb4), HR1.out.below (Below_of_alloc hb4), HR2.out.below (Below_of_alloc hb4), HSP.out.below (Below_of_alloc hb4), HSQ.out.below (Below_of_alloc hb4), HOP.out.below (Below_of_alloc hb4), HOQ.out.below (Below_of_alloc hb4), HAPS.out, HAPO.out, by omega, by omega, hnsp, hnsq, hnop, hnoq⟩)
    have HSW := Lib.hid (HS.out.below H4.out.bel)
    have HTW := Lib.hid (HT.out.below H4.out.bel)
    obtain ⟨WA, wc, ew, hlew, hsw, _⟩ := hownw.sl
    clear hb4 hownw HR0 HR1 HR2 HB1 HB2 HB3 HSP HSQ HOP HOQ HAPS HAPO hnsp hnsq hnop hnoq
    rcases WL with _ | ⟨z0, _ | ⟨z1, _ | ⟨z2, _ | ⟨z3, zr⟩⟩⟩⟩
    · exact absurd HMT.out.symm HNE.out
    · have ew : vw = .slice WA 1 wc := ew
      subst ew
      obtain ⟨wb, wo, rfl, q0⟩ := hsw.getS (k := 0) (by simp)
      have q0 : w4.cell? ⟨wb, wo, none⟩ = some (.string z0) := q0
      have HA := Lib.hid (show R = lineA ⟨l, x, m⟩ [tx z0] by rw [HA0.out, ← HMT.out]; rfl)
      have HL1 := Lib.hid (HL0.out (tx z0) HMT.out.symm)
      clear hsw hlew HA0 HL0 HE6 HNE HMT
      rcases words6 z0 with ⟨hw, e1, e2, e3, e4, e5⟩ | ⟨hw, e1, e2, e3, e4, e5⟩ | ⟨hw, e1, e2, e3, e4, e5⟩ | ⟨hw, e1, e2, e3, e4, e5⟩ | ⟨hw, e1, e2, e3, e4, e5⟩ | ⟨n1, n2, n3, n4, n5, e1, e2, e3, e4, e5⟩
      · have e6 : (line.toList == [102, 105, 108, 101, 115]) = false := by rw [lit_tx, HL1.out, hw]; decide
        have HR := Lib.hid (show R = (⟨l, x, m⟩, wNo) from HA.out.trans (lineA_one (by rw [hw]; decide)))
        obtain ⟨⟨a0, a1, a2⟩, _, _⟩ := H4.out.r0
        obtain ⟨⟨y0', y1', y2'⟩, yf, _⟩ := H4.out.r1
        obtain ⟨⟨s0, s1, s2⟩, _, _⟩ := H4.out.r2
        go_wp2_with fail
        exact bodyPost_ret (v := .tuple #[.agg #[(.slice P1 l.length k1), .int .i64 x, (.slice Q1 m.length j1)], .string ⟨#[110, 111]⟩]) (by simp [results, Tryd.results36, go_sem, y0', y1', y2']) rfl (AlRes.mk_ HR.out rfl (ar_end H4.out.bel H4.out.sp H4.out.sq H4.out.aps))
      · have e6 : (line.toList == [102, 105, 108, 101, 115]) = false := by rw [lit_tx, HL1.out, hw]; decide
        have HR := Lib.hid (show R = (⟨l, x, m⟩, wNo) from HA.out.trans (lineA_one (by rw [hw]; decide)))
        obtain ⟨⟨a0, a1, a2⟩, _, _⟩ := H4.out.r0
        obtain ⟨⟨y0', y1', y2'⟩, yf, _⟩ := H4.out.r1
        obtain ⟨⟨s0, s1, s2⟩, _, _⟩ := H4.out.r2
        go_wp2_with fail
        exact bodyPost_ret (v := .tuple #[.agg #[(.slice P1 l.length k1), .int .i64 x, (.slice Q1 m.length j1)], .string ⟨#[110, 111]⟩]) (by simp [results, Tryd.results36, go_sem, y0', y1', y2']) rfl (AlRes.mk_ HR.out rfl (ar_end H4.out.bel H4.out.sp H4.out.sq H4.out.aps))
      · have e6 : (line.toList == [102, 105, 108, 101, 115]) = false := by rw [lit_tx, HL1.out, hw]; decide
        have HR := Lib.hid (show R = (⟨l, x, m⟩, wNo) from HA.out.trans (lineA_one (by rw [hw]; decide)))
        obtain ⟨⟨a0, a1, a2⟩, _, _⟩ := H4.out.r0
        obtain ⟨⟨y0', y1', y2'⟩, yf, _⟩ := H4.out.r1
        obtain ⟨⟨s0, s1, s2⟩, _, _⟩ := H4.out.r2
        go_wp2_with fail
        exact bodyPost_ret (v := .tuple #[.agg #[(.slice P1 l.length k1), .int .i64 x, (.slice Q1 m.length j1)], .string ⟨#[110, 111]⟩]) (by simp [results, Tryd.results36, go_sem, y0', y1', y2']) rfl (AlRes.mk_ HR.out rfl (ar_end H4.out.bel H4.out.sp H4.out.sq H4.out.aps))
      · have e6 : (line.toList == [102, 105, 108, 101, 115]) = false := by rw [lit_tx, HL1.out, hw]; decide
        have HR := Lib.hid (show R = (⟨l, x, m⟩, wNo) from HA.out.trans (lineA_one (by rw [hw]; decide)))
        obtain ⟨⟨a0, a1, a2⟩, _, _⟩ := H4.out.r0
        obtain ⟨⟨y0', y1', y2'⟩, yf, _⟩ := H4.out.r1
        obtain ⟨⟨s0, s1, s2⟩, _, _⟩ := H4.out.r2
        go_wp2_with fail
        exact bodyPost_ret (v := .tuple #[.agg #[(.slice P1 l.length k1), .int .i64 x, (.slice Q1 m.length j1)], .string ⟨#[110, 111]⟩]) (by simp [results, Tryd.results36, go_sem, y0', y1', y2']) rfl (AlRes.mk_ HR.out rfl (ar_end H4.out.bel H4.out.sp H4.out.sq H4.out.aps))
      · have e6 : (line.toList == [102, 105, 108, 101, 115]) = false := by rw [lit_tx, HL1.out, hw]; decide
        have HR := Lib.hid (show R = (⟨l, x, m⟩, wNo) from HA.out.trans (lineA_one (by rw [hw]; decide)))
        obtain ⟨⟨a0, a1, a2⟩, _, _⟩ := H4.out.r0
        obtain ⟨⟨y0', y1', y2'⟩, yf, _⟩ := H4.out.r1
        obtain ⟨⟨s0, s1, s2⟩, _, _⟩ := H4.out.r2
        go_wp2_with fail
        exact bodyPost_ret (v := .tuple #[.agg #[(.slice P1 l.length k1), .int .i64 x, (.slice Q1 m.length j1)], .string ⟨#[110, 111]⟩]) (by simp [results, Tryd.results36, go_sem, y0', y1', y2']) rfl (AlRes.mk_ HR.out rfl (ar_end H4.out.bel H4.out.sp H4.out.sq H4.out.aps))
      · by_cases hw : tx z0 = wFiles
        · have e6 : (line.toList == [102, 105, 108, 101, 115]) = true := by rw [lit_tx, HL1.out, hw]; decide
          have hX := fun W h => sAllFiles_any A c l x W h (by omega) HFP.out
          unfold OwnRes at hX
          have hFl := allF_len l x
          have HFN := Lib.hid (fun y hy => allF_ne (s := l) (root := x) (x := y) hy)
          have hFS := filesB_size l x
          unfold filesB at hFS
          have HRW := Lib.hid (show R = (⟨l, x, m⟩, if allF l x = [] then [110, 111, 110, 101] else joinW [32] (allF l x)) from HA.out.trans (lineA_files hw))
          generalize allF l x = F at *
          have HFS := Lib.hid (fun y (hy : y ∈ F) => show y.length ≤ 27 by
            have := hFS (mk y) (List.mem_map_of_mem hy)
            rwa [mk_size] at this)
          have HFM := Lib.hid (show (F.map mk).length = F.length from List.length_map _)
          have HFK := Lib.hid (fun (k : Nat) (hk : k < F.length) (hk2 : k < (F.map mk).length) => show (F.map mk)[k] = mk F[k] from List.getElem_map _)
          generalize F.map mk = FM at *
          have HX := Lib.hid hX
          clear hX hFS
          obtain ⟨⟨a0, a1, a2⟩, _, _⟩ := H4.out.r0
          obtain ⟨⟨y0', y1', y2'⟩, yf, _⟩ := H4.out.r1
          obtain ⟨⟨s0, s1, s2⟩, _, _⟩ := H4.out.r2
          go_wp2_with fail
          refine (HX.out _ HSW.out).mono ?_
          rintro e w5 ⟨v5, rfl, hown5, hb5⟩
          obtain ⟨A5, c5, e5, hle5, hs5, _⟩ := hown5.sl
          rw [HFM.out] at e5
          subst e5
          have HF5 := Lib.hid hs5
          have H5 := Lib.hid (H4.out.below hb5)
          clear hown5 hs5 hb5 a0 a1 a2 y0' y1' y2' yf s0 s1 s2
          go_wp2_with fail
          go_loop [22, 24] (fun vt vk => ∃ (k : Nat), k ≤ F.length ∧ vk = .int .i64 k ∧ vt = .string (mk (joinW [32] (F.take k)))) (fun _ vk => F.length - (intOf vk).toNat)
          case atStart => exact ⟨0, Nat.zero_le _, rfl, rfl⟩
          case round =>
            obtain ⟨k, hk, rfl, rfl⟩ := hrel
            have hjl := joinW_len [32] 27 (F.take k) (fun y hy => HFS.out y (List.mem_of_mem_take hy))
            rw [List.length_take] at hjl
            have hjs : (mk (joinW [32] (F.take k))).size ≤ 28 * 27 := by
              rw [mk_size]
              have h1 : min k F.length ≤ 27 := by omega
              have h2 := Nat.mul_le_mul_right (27 + [(32 : UInt8)].length) h1
              exact Nat.le_trans hjl (Nat.le_trans h2 (by decide))
            clear hjl
            by_cases hlt : k < F.length
            · have hlt' : (k : Int) < (F.length : Int) := by omega
              have hkm : k < FM.length := by rw [HFM.out]; exact hlt
              obtain ⟨fb, fo, rfl, hcf⟩ := HF5.out.getS hkm
              rw [HFK.out k hlt hkm] at hcf
              have hyz : (mk F[k]).size ≤ 27 := by rw [mk_size]; exact HFS.out _ (List.getElem_mem hlt)
              have htk : F.take (k + 1) = F.take k ++ [F[k]] := List.take_succ_eq_append_getElem hlt
              by_cases h0 : k = 0
              · have hkp : ¬ (0 : Int) < (k : Int) := by omega
                have HN := Lib.hid (show mk (joinW [32] (F.take k)) ++ mk F[k] = mk (joinW [32] (F.take (k + 1))) by
                  rw [mk_append, htk]; subst h0; rfl)
                have hq := str_add (x := mk (joinW [32] (F.take k))) (y := mk F[k]) (by omega) (by omega)
                generalize mk (joinW [32] (F.take k)) = t0 at *
                generalize mk F[k] = y at *
                clear htk h0
                go_wp2
                go_round
                case rel => exact ⟨k + 1, by omega, by go_num, by rw [HN.out]⟩
                case measure => first | (simp [intOf]; done) | (simp [intOf]; omega)
              · have hkp : (0 : Int) < (k : Int) := by omega
                have HN := Lib.hid (show (mk (joinW [32] (F.take k)) ++ ⟨#[32]⟩) ++ mk F[k] = mk (joinW [32] (F.take (k + 1))) by
                  rw [htk, joinW_snoc [32] _ _ (fun e => by have h := congrArg List.length e; rw [List.length_take, Nat.min_eq_left (by omega), List.length_nil] at h; exact h0 h), ← mk_append, ← mk_append]; rfl)
                have hq1 := str_add (x := mk (joinW [32] (F.take k))) (y := ⟨#[32]⟩) (by omega) (by decide)
                have hz1 : (mk (joinW [32] (F.take k)) ++ ⟨#[32]⟩).size ≤ 28 * 27 + 1 := by
                  rw [ByteArray.size_append]
                  have : (⟨#[32]⟩ : ByteArray).size = 1 := rfl
                  omega
                have hq2 := str_add (x := mk (joinW [32] (F.take k)) ++ ⟨#[32]⟩) (y := mk F[k]) (by omega) (by omega)
                generalize mk (joinW [32] (F.take k)) = t0 at *
                generalize mk F[k] = y at *
                clear htk
                go_wp2
                go_round
                case rel => exact ⟨k + 1, by omega, by go_num, by rw [HN.out]⟩
                case measure => first | (simp [intOf]; done) | (simp [intOf]; omega)
            · have hlt' : ¬ (k : Int) < (F.length : Int) := by omega
              obtain rfl : k = F.length := by omega
              have htl : F.take F.length = F := List.take_length
              rw [htl]
              by_cases hF : F = []
              · have HR := Lib.hid (show R = (⟨l, x, m⟩, [110, 111, 110, 101]) by rw [HRW.out, if_pos hF])
                have hemp : ((mk (joinW [32] F)).toList == []) = true := by rw [hF, mk_toList]; rfl
                clear HRW htl hF
                obtain ⟨⟨a0, a1, a2⟩, _, _⟩ := H5.out.r0
                obtain ⟨⟨y0', y1', y2'⟩, yf, _⟩ := H5.out.r1
                obtain ⟨⟨s0, s1, s2⟩, _, _⟩ := H5.out.r2
                generalize mk (joinW [32] F) = t0 at *
                go_wp2_with fail
                exact bodyPost_ret (v := .tuple #[.agg #[(.slice P1 l.length k1), .int .i64 x, (.slice Q1 m.length j1)], .string ⟨#[110, 111, 110, 101]⟩]) (by simp [results, Tryd.results36, go_sem, y0', y1', y2']) rfl (AlRes.mk_ HR.out rfl (ar_end H5.out.bel H5.out.sp H5.out.sq H5.out.aps))
              · have HR := Lib.hid (show R = (⟨l, x, m⟩, joinW [32] F) by rw [HRW.out, if_neg hF])
                have hemp : ((mk (joinW [32] F)).toList == []) = false := by
                  rw [mk_toList, beq_eq_false_iff_ne]
                  exact joinW_ne hF (fun y hy => HFN.out y hy)
                clear HRW htl hF
                obtain ⟨⟨a0, a1, a2⟩, _, _⟩ := H5.out.r0
                obtain ⟨⟨y0', y1', y2'⟩, yf, _⟩ := H5.out.r1
                obtain ⟨⟨s0, s1, s2⟩, _, _⟩ := H5.out.r2
                generalize ht0 : mk (joinW [32] F) = t0 at *
                have HT0 := Lib.hid ht0.symm
                clear ht0
                go_wp2_with fail
                exact bodyPost_ret (v := .tuple #[.agg #[(.slice P1 l.length k1), .int .i64 x, (.slice Q1 m.length j1)], .string t0]) (by simp [results, Tryd.results36, go_sem, y0', y1', y2']) rfl (AlRes.mk_ HR.out HT0.out (ar_end H5.out.bel H5.out.sp H5.out.sq H5.out.aps))
        · have e6 : (line.toList == [102, 105, 108, 101, 115]) = false := by rw [lit_tx, HL1.out]; exact beq_eq_false_iff_ne.2 hw
          have HR := Lib.hid (show R = (⟨l, x, m⟩, wNo) from HA.out.trans (lineA_one hw))
          obtain ⟨⟨a0, a1, a2⟩, _, _⟩ := H4.out.r0
          obtain ⟨⟨y0', y1', y2'⟩, yf, _⟩ := H4.out.r1
          obtain ⟨⟨s0, s1, s2⟩, _, _⟩ := H4.out.r2
          go_wp2_with fail
          exact bodyPost_ret (v := .tuple #[.agg #[(.slice P1 l.length k1), .int .i64 x, (.slice Q1 m.length j1)], .string ⟨#[110, 111]⟩]) (by simp [results, Tryd.results36, go_sem, y0', y1', y2']) rfl (AlRes.mk_ HR.out rfl (ar_end H4.out.bel H4.out.sp H4.out.sq H4.out.aps))
    · have ew : vw = .slice WA 2 wc := ew
      subst ew
      obtain ⟨wb, wo, rfl, q0⟩ := hsw.getS (k := 0) (by simp)
      have q0 : w4.cell? ⟨wb, wo, none⟩ = some (.string z0) := q0
      obtain ⟨wb2, wo2, eq2, q1⟩ := hsw.getS (k := 1) (by simp)
      injection eq2 with eq2; injection eq2 with eq3 eq4
      subst eq3 eq4
      have q1 : w4.cell? ⟨wb, wo + 1, none⟩ = some (.string z1) := q1
      have HA := Lib.hid (show R = lineA ⟨l, x, m⟩ [tx z0, tx z1] by rw [HA0.out, ← HMT.out]; rfl)
      have e6 : (line.toList == [102, 105, 108, 101, 115]) = false := by
        rw [lit_tx, beq_eq_false_iff_ne]
        intro e
        have h := HE6.out e
        rw [← HMT.out] at h
        simp at h
      clear hsw hlew HA0 HL0 HE6 HNE HMT
      rcases words6 z0 with ⟨hw, e1, e2, e3, e4, e5⟩ | ⟨hw, e1, e2, e3, e4, e5⟩ | ⟨hw, e1, e2, e3, e4, e5⟩ | ⟨hw, e1, e2, e3, e4, e5⟩ | ⟨hw, e1, e2, e3, e4, e5⟩ | ⟨n1, n2, n3, n4, n5, e1, e2, e3, e4, e5⟩
      · have HR := Lib.hid (show R = (⟨l, x, m⟩, wNo) from HA.out.trans (lineA_two (by rw [hw]; decide) (by rw [hw]; decide) (by rw [hw]; decide) (by rw [hw]; decide)))
        obtain ⟨⟨a0, a1, a2⟩, _, _⟩ := H4.out.r0
        obtain ⟨⟨y0', y1', y2'⟩, yf, _⟩ := H4.out.r1
        obtain ⟨⟨s0, s1, s2⟩, _, _⟩ := H4.out.r2
        go_wp2_with fail
        exact bodyPost_ret (v := .tuple #[.agg #[(.slice P1 l.length k1), .int .i64 x, (.slice Q1 m.length j1)], .string ⟨#[110, 111]⟩]) (by simp [results, Tryd.results36, go_sem, y0', y1', y2']) rfl (AlRes.mk_ HR.out rfl (ar_end H4.out.bel H4.out.sp H4.out.sq H4.out.aps))
      · have HRW := Lib.hid (HA.out.trans (lineA_drop hw))
        have hX := fun W h => sDropAt_any A c l x z1 W h HCZ.out hle (by omega) HFP.out (HSZ.out z1 (by simp))
        unfold PutRes at hX
        generalize hres : dropA l x (tx z1) = RES at *
        obtain ⟨l5, r5, ok5⟩ := RES
        simp only at *
        have HX := Lib.hid hX
        clear hX hres
        obtain ⟨⟨a0, a1, a2⟩, _, _⟩ := H4.out.r0
        obtain ⟨⟨y0', y1', y2'⟩, yf, _⟩ := H4.out.r1
        obtain ⟨⟨s0, s1, s2⟩, _, _⟩ := H4.out.r2
        cases ok5
        · have HR := Lib.hid (show R = (⟨l, x, m⟩, wNo) from HRW.out)
          clear HRW
          go_wp2_with fail
          go_region_held3 (fun W => W.cell? ⟨w.heap.size, 0, none⟩ = some (.slice A l.length c) ∧ W.cell? ⟨w.heap.size, 1, none⟩ = some (.int .i64 x) ∧ W.cell? ⟨wb, wo + 1, none⟩ = some (.string z1)) (first | exact ⟨a0, a1, q1⟩ | exact ⟨Below_cells HY5.out _ _ _ a0, Below_cells HY5.out _ _ _ a1, Below_cells HY5.out _ _ _ q1⟩)
            ((go_at_call 60; refine (HX.out _ (by first | exact HSW.out | exact HSW.out.drew)).mono ?_; rintro e w5 ⟨v5, rfl, hown5, hb5⟩; have hb5' := (show Below w4.heap.size w4 w5 from (by first | exact hb5 | exact Below_drew hb5)); have HY5 := Lib.hid hb5'; have HO5 := Lib.hid (hown5.mono (show w4.heap.size ≤ _ from Nat.le_refl _)); clear hown5 hb5 hb5'))
          all_goals
            obtain ⟨A5, c5, e5, _⟩ := HO5.out.sl
            subst e5
            have H5 := Lib.hid (((H4.out.below HY5.out).set 0 (.slice A5 l5.length c5)).set 1 (.int .i64 r5))
            obtain ⟨⟨o0, o1, o2⟩, of, ol⟩ := H4R.out.below HY5.out
            clear a0 a1 a2 y0' y1' y2' yf s0 s1 s2
            obtain ⟨⟨a0, a1, a2⟩, _, _⟩ := H5.out.r0
            obtain ⟨⟨y0', y1', y2'⟩, yf, _⟩ := H5.out.r1
            obtain ⟨⟨s0, s1, s2⟩, _, _⟩ := H5.out.r2
            go_wp2_with fail
            exact bodyPost_ret (v := .tuple #[.agg #[(.slice P1 l.length k1), .int .i64 x, (.slice Q1 m.length j1)], .string ⟨#[110, 111]⟩]) (by simp [results, Tryd.results36, go_sem, y0', y1', y2']) rfl (AlRes.mk_ HR.out rfl (ar_end H5.out.bel H5.out.sp H5.out.sq H5.out.aps))
        · have HR := Lib.hid (show R = (⟨l5, r5, m⟩, wOk) from HRW.out)
          clear HRW
          go_wp2_with fail
          go_region_held3 (fun W => W.cell? ⟨w.heap.size, 0, none⟩ = some (.slice A l.length c) ∧ W.cell? ⟨w.heap.size, 1, none⟩ = some (.int .i64 x) ∧ W.cell? ⟨wb, wo + 1, none⟩ = some (.string z1)) (first | exact ⟨a0, a1, q1⟩ | exact ⟨Below_cells HY5.out _ _ _ a0, Below_cells HY5.out _ _ _ a1, Below_cells HY5.out _ _ _ q1⟩)
            ((go_at_call 60; refine (HX.out _ (by first | exact HSW.out | exact HSW.out.drew)).mono ?_; rintro e w5 ⟨v5, rfl, hown5, hb5⟩; have hb5' := (show Below w4.heap.size w4 w5 from (by first | exact hb5 | exact Below_drew hb5)); have HY5 := Lib.hid hb5'; have HO5 := Lib.hid (hown5.mono (show w4.heap.size ≤ _ from Nat.le_refl _)); clear hown5 hb5 hb5'))
          all_goals
            obtain ⟨A5, c5, e5, _⟩ := HO5.out.sl
            subst e5
            have H5 := Lib.hid (((H4.out.below HY5.out).set 0 (.slice A5 l5.length c5)).set 1 (.int .i64 r5))
            obtain ⟨⟨o0, o1, o2⟩, of, ol⟩ := H4R.out.below HY5.out
            have HW5 := Lib.hid ((HO5.out.setOther (b := w3.heap.size) (i := 0) (fun e => absurd (HO5.out.blk _ e).1 (by have := H4R.out.2.2; omega)) (.slice A5 l5.length c5)).setOther (b := w3.heap.size) (i := 1) (fun e => absurd (HO5.out.blk _ e).1 (by have := H4R.out.2.2; omega)) (.int .i64 r5))
            have HAP := Lib.hid (show ApartV (.slice A5 l5.length c5) (.slice Q2 m.length j2) from fun g hg hv => by
              have h1 := (HO5.out.blk g hg).1
              have h2 := (H4.out.oq.blk g hv).2
              omega)
            have hlo := H4.out.lo
            have hlt := H4.out.lt
            have hol := H4R.out.2.2
            clear a0 a1 a2 y0' y1' y2' yf s0 s1 s2
            obtain ⟨⟨a0, a1, a2⟩, _, _⟩ := H5.out.r0
            obtain ⟨⟨y0', y1', y2'⟩, yf, _⟩ := H5.out.r1
            obtain ⟨⟨s0, s1, s2⟩, _, _⟩ := H5.out.r2
            go_wp2_with fail
            exact bodyPost_ret (v := .tuple #[.agg #[(.slice A5 l5.length c5), .int .i64 r5, (.slice Q2 m.length j2)], .string ⟨#[111, 107]⟩]) (by simp [results, Tryd.results36, go_sem, y0', y1', y2']) rfl (AlRes.mk_ HR.out rfl (ar_end H5.out.bel (HW5.out.mono (by omega)) H5.out.oq HAP.out))
      · have HRW := Lib.hid (HA.out.trans (lineA_keep hw))
        have hwr : IntKind.i64.wrap ((m.length : Int) - 1) = (m.length : Int) - 1 := IntWalk.i64_in _ (by omega)
        have hX := fun W h => sAddX_any B dd m (x, (m.length : Int) - 1, z1) W h HCZ2.out (by omega) HFV.out (Nat.le_trans (HSZ.out z1 (by simp)) (by omega))
        unfold AddX at hX
        have HRW := Lib.hid (show R = match addV m (x, (m.length : Int) - 1, z1) with | (v, true) => (⟨l, x, v⟩, wOk) | _ => (⟨l, x, m⟩, wNo) from HRW.out)
        generalize hres : addV m (x, (m.length : Int) - 1, z1) = RES at *
        obtain ⟨m5, ok5⟩ := RES
        simp only at *
        have HX := Lib.hid hX
        clear hX hres
        obtain ⟨⟨a0, a1, a2⟩, _, _⟩ := H4.out.r0
        obtain ⟨⟨y0', y1', y2'⟩, yf, _⟩ := H4.out.r1
        obtain ⟨⟨s0, s1, s2⟩, _, _⟩ := H4.out.r2
        cases ok5
        · have HR := Lib.hid (show R = (⟨l, x, m⟩, wNo) from HRW.out)
          clear HRW
          go_wp2_with fail
          go_region_held3 (fun W => W.cell? ⟨w.heap.size, 1, none⟩ = some (.int .i64 x) ∧ W.cell? ⟨w.heap.size, 2, none⟩ = some (.slice B m.length dd) ∧ W.cell? ⟨wb, wo + 1, none⟩ = some (.string z1)) (first | exact ⟨a1, a2, q1⟩ | exact ⟨Below_cells HY5.out _ _ _ a1, Below_cells HY5.out _ _ _ a2, Below_cells HY5.out _ _ _ q1⟩)
            ((go_at_call 61; refine (HX.out _ (by first | exact HTW.out | exact HTW.out.drew)).mono ?_; rintro e w5 ⟨v5, rfl, hown5, hb5⟩; have hb5' := (show Below w4.heap.size w4 w5 from (by first | exact hb5 | exact Below_drew hb5)); have HY5 := Lib.hid hb5'; have HO5 := Lib.hid (hown5.mono (show w4.heap.size ≤ _ from Nat.le_refl _)); clear hown5 hb5 hb5'))
          all_goals
            obtain ⟨A5, c5, e5, _⟩ := HO5.out.sl
            subst e5
            have H5 := Lib.hid ((H4.out.below HY5.out).set 2 (.slice A5 m5.length c5))
            obtain ⟨⟨o0, o1, o2⟩, of, ol⟩ := H4R.out.below HY5.out
            clear a0 a1 a2 y0' y1' y2' yf s0 s1 s2
            obtain ⟨⟨a0, a1, a2⟩, _, _⟩ := H5.out.r0
            obtain ⟨⟨y0', y1', y2'⟩, yf, _⟩ := H5.out.r1
            obtain ⟨⟨s0, s1, s2⟩, _, _⟩ := H5.out.r2
            go_wp2_with fail
            exact bodyPost_ret (v := .tuple #[.agg #[(.slice P1 l.length k1), .int .i64 x, (.slice Q1 m.length j1)], .string ⟨#[110, 111]⟩]) (by simp [results, Tryd.results36, go_sem, y0', y1', y2']) rfl (AlRes.mk_ HR.out rfl (ar_end H5.out.bel H5.out.sp H5.out.sq H5.out.aps))
        · have HR := Lib.hid (show R = (⟨l, x, m5⟩, wOk) from HRW.out)
          clear HRW
          go_wp2_with fail
          go_region_held3 (fun W => W.cell? ⟨w.heap.size, 1, none⟩ = some (.int .i64 x) ∧ W.cell? ⟨w.heap.size, 2, none⟩ = some (.slice B m.length dd) ∧ W.cell? ⟨wb, wo + 1, none⟩ = some (.string z1)) (first | exact ⟨a1, a2, q1⟩ | exact ⟨Below_cells HY5.out _ _ _ a1, Below_cells HY5.out _ _ _ a2, Below_cells HY5.out _ _ _ q1⟩)
            ((go_at_call 61; refine (HX.out _ (by first | exact HTW.out | exact HTW.out.drew)).mono ?_; rintro e w5 ⟨v5, rfl, hown5, hb5⟩; have hb5' := (show Below w4.heap.size w4 w5 from (by first | exact hb5 | exact Below_drew hb5)); have HY5 := Lib.hid hb5'; have HO5 := Lib.hid (hown5.mono (show w4.heap.size ≤ _ from Nat.le_refl _)); clear hown5 hb5 hb5'))
          all_goals
            obtain ⟨A5, c5, e5, _⟩ := HO5.out.sl
            subst e5
            have H5 := Lib.hid ((H4.out.below HY5.out).set 2 (.slice A5 m5.length c5))
            obtain ⟨⟨o0, o1, o2⟩, of, ol⟩ := H4R.out.below HY5.out
            have HW5 := Lib.hid (HO5.out.setOther (b := w3.heap.size) (i := 2) (fun e => absurd (HO5.out.blk _ e).1 (by have := H4R.out.2.2; omega)) (.slice A5 m5.length c5))
            have HAP := Lib.hid (show ApartV (.slice P2 l.length k2) (.slice A5 m5.length c5) from fun g hv hg => by
              have h1 := (HO5.out.blk g hg).1
              have h2 := (H4.out.op.blk g hv).2
              omega)
            have hlo := H4.out.lo
            have hlt := H4.out.lt
            have hol := H4R.out.2.2
            clear a0 a1 a2 y0' y1' y2' yf s0 s1 s2
            obtain ⟨⟨a0, a1, a2⟩, _, _⟩ := H5.out.r0
            obtain ⟨⟨y0', y1', y2'⟩, yf, _⟩ := H5.out.r1
            obtain ⟨⟨s0, s1, s2⟩, _, _⟩ := H5.out.r2
            go_wp2_with fail
            exact bodyPost_ret (v := .tuple #[.agg #[(.slice P2 l.length k2), .int .i64 x, (.slice A5 m5.length c5)], .string ⟨#[111, 107]⟩]) (by simp [results, Tryd.results36, go_sem, y0', y1', y2']) rfl (AlRes.mk_ HR.out rfl (ar_end H5.out.bel H5.out.op (HW5.out.mono (by omega)) HAP.out))
      · have HRW := Lib.hid (HA.out.trans (lineA_back hw))
        have hRH := fun W => sReadHex_any z1 W (Nat.le_trans (HSZ.out z1 (by simp)) (by omega))
        have HRW := Lib.hid (show R = if 0 ≤ readH (bs z1) ∧ readH (bs z1) < m.length then (⟨l, (m.getD (readH (bs z1)).toNat (0, 0, ⟨#[]⟩)).1, m⟩, wOk) else (⟨l, x, m⟩, wNo) from HRW.out)
        generalize readH (bs z1) = n at *
        have HRH := Lib.hid hRH
        clear hRH
        have hwr : IntKind.i64.wrap ((m.length : Int) - 1) = (m.length : Int) - 1 := IntWalk.i64_in _ (by omega)
        obtain ⟨⟨a0, a1, a2⟩, _, _⟩ := H4.out.r0
        obtain ⟨⟨y0', y1', y2'⟩, yf, _⟩ := H4.out.r1
        obtain ⟨⟨s0, s1, s2⟩, _, _⟩ := H4.out.r2
        by_cases hin : 0 ≤ n ∧ n < (m.length : Int)
        · obtain ⟨N, rfl⟩ := Int.eq_ofNat_of_zero_le hin.1
          have hN : N < m.length := by omega
          have hN' : (N : Int) < (m.length : Int) := by omega
          have HR := Lib.hid (show R = (⟨l, m[N].1, m⟩, wOk) by
            rw [HRW.out, if_pos hin, Int.toNat_natCast, List.getD_eq_getElem?_getD, List.getElem?_eq_getElem hN]; rfl)
          have HIN := Lib.hid (show inI (N : Int) 0 ((m.length : Int) - 1) = true by unfold inI; rw [decide_eq_true_eq]; omega)
          obtain ⟨vb, vo, eB, hv0, _, _⟩ := HTW.out.getV hN
          subst eB
          obtain ⟨⟨o0, o1, o2⟩, of, ol⟩ := H4R.out
          have H5 := Lib.hid (H4.out.set 1 (.int .i64 m[N].1))
          generalize m[N].1 = rt at *
          clear HRW hin
          go_wp2_with (first | (go_at_call 30; refine (HRH.out _).mono ?_; rintro e w' ⟨rfl, rfl⟩) | (go_at_call 43; refine (sl1In_any _ _ _ _).mono ?_; rintro e w' ⟨rfl, rfl⟩; rw [HIN.out]))
          exact bodyPost_ret (v := .tuple #[.agg #[(.slice P2 l.length k2), .int .i64 rt, (.slice Q2 m.length j2)], .string ⟨#[111, 107]⟩]) (by simp [results, Tryd.results36, go_sem, y0', y1', y2']) rfl (AlRes.mk_ HR.out rfl (ar_end H5.out.bel H5.out.op H5.out.oq H5.out.apo))
        · have HR := Lib.hid (show R = (⟨l, x, m⟩, wNo) by rw [HRW.out, if_neg hin])
          have HIN := Lib.hid (show inI n 0 ((m.length : Int) - 1) = false by unfold inI; rw [decide_eq_false_iff_not]; omega)
          clear HRW hin
          go_wp2_with (first | (go_at_call 30; refine (HRH.out _).mono ?_; rintro e w' ⟨rfl, rfl⟩) | (go_at_call 43; refine (sl1In_any _ _ _ _).mono ?_; rintro e w' ⟨rfl, rfl⟩; rw [HIN.out]))
          exact bodyPost_ret (v := .tuple #[.agg #[(.slice P1 l.length k1), .int .i64 x, (.slice Q1 m.length j1)], .string ⟨#[110, 111]⟩]) (by simp [results, Tryd.results36, go_sem, y0', y1', y2']) rfl (AlRes.mk_ HR.out rfl (ar_end H4.out.bel H4.out.sp H4.out.sq H4.out.aps))
      · have HRW := Lib.hid (HA.out.trans (lineA_read hw))
        have hX := fun W h => sReadAt_any A c l x z1 W h (by omega) HFP.out (HSZ.out z1 (by simp))
        have hrl := readAt_len l x (bs z1)
        unfold FoRes at hX
        have HRW := Lib.hid (show R = match readAt l x (bs z1) with | some t => (⟨l, x, m⟩, 61 :: t) | none => (⟨l, x, m⟩, wNo) from HRW.out)
        generalize readAt l x (bs z1) = RES at *
        obtain ⟨⟨a0, a1, a2⟩, _, _⟩ := H4.out.r0
        obtain ⟨⟨y0', y1', y2'⟩, yf, _⟩ := H4.out.r1
        obtain ⟨⟨s0, s1, s2⟩, _, _⟩ := H4.out.r2
        cases RES with
        | none =>
          have HR := Lib.hid (show R = (⟨l, x, m⟩, wNo) from HRW.out)
          have HX := Lib.hid hX
          simp only [Option.isSome_none] at *
          clear HRW hX hrl
          go_wp2_with fail
          go_region_held3 (fun W => W.cell? ⟨w.heap.size, 0, none⟩ = some (.slice A l.length c) ∧ W.cell? ⟨w.heap.size, 1, none⟩ = some (.int .i64 x) ∧ W.cell? ⟨wb, wo + 1, none⟩ = some (.string z1)) (first | exact ⟨a0, a1, q1⟩ | exact ⟨Below_cells HY5.out _ _ _ a0, Below_cells HY5.out _ _ _ a1, Below_cells HY5.out _ _ _ q1⟩)
            ((go_at_call 62; refine (HX.out _ (by first | exact HSW.out | exact HSW.out.drew)).mono ?_; rintro e w5 ⟨rfl, hb5⟩; have hb5' := (show Below w4.heap.size w4 w5 from (by first | exact hb5 | exact Below_drew hb5)); have HY5 := Lib.hid hb5'; clear hb5 hb5'))
          all_goals
            have H5 := Lib.hid (H4.out.below HY5.out)
            clear a0 a1 a2 y0' y1' y2' yf s0 s1 s2
            obtain ⟨⟨a0, a1, a2⟩, _, _⟩ := H5.out.r0
            obtain ⟨⟨y0', y1', y2'⟩, yf, _⟩ := H5.out.r1
            obtain ⟨⟨s0, s1, s2⟩, _, _⟩ := H5.out.r2
            go_wp2_with fail
            exact bodyPost_ret (v := .tuple #[.agg #[(.slice P1 l.length k1), .int .i64 x, (.slice Q1 m.length j1)], .string ⟨#[110, 111]⟩]) (by simp [results, Tryd.results36, go_sem, y0', y1', y2']) rfl (AlRes.mk_ HR.out rfl (ar_end H5.out.bel H5.out.sp H5.out.sq H5.out.aps))
        | some t =>
          have HR := Lib.hid (show R = (⟨l, x, m⟩, 61 :: t) from HRW.out)
          have hX : ∀ W, Sl W encP 2 A l → Calls Tryd.prog 62 #[.slice A l.length c, .int .i64 x, .string z1] W fun e w' => e = .returned (.tuple #[.string (mk t), .bool true]) ∧ Below W.heap.size W w' := hX
          have hts : (mk t).size ≤ 40 := by rw [mk_size]; exact hrl
          have HMK := Lib.hid (show (⟨#[61]⟩ : ByteArray) ++ mk t = mk (61 :: t) from mk_append [61] t)
          generalize mk t = ct at *
          have hq := str_add (x := ⟨#[61]⟩) (y := ct) (by decide) (by omega)
          have HX := Lib.hid hX
          clear HRW hX hrl
          go_wp2_with fail
          go_region_held3 (fun W => W.cell? ⟨w.heap.size, 0, none⟩ = some (.slice A l.length c) ∧ W.cell? ⟨w.heap.size, 1, none⟩ = some (.int .i64 x) ∧ W.cell? ⟨wb, wo + 1, none⟩ = some (.string z1)) (first | exact ⟨a0, a1, q1⟩ | exact ⟨Below_cells HY5.out _ _ _ a0, Below_cells HY5.out _ _ _ a1, Below_cells HY5.out _ _ _ q1⟩)
            ((go_at_call 62; refine (HX.out _ (by first | exact HSW.out | exact HSW.out.drew)).mono ?_; rintro e w5 ⟨rfl, hb5⟩; have hb5' := (show Below w4.heap.size w4 w5 from (by first | exact hb5 | exact Below_drew hb5)); have HY5 := Lib.hid hb5'; clear hb5 hb5'))
          all_goals
            have H5 := Lib.hid (H4.out.below HY5.out)
            clear a0 a1 a2 y0' y1' y2' yf s0 s1 s2
            obtain ⟨⟨a0, a1, a2⟩, _, _⟩ := H5.out.r0
            obtain ⟨⟨y0', y1', y2'⟩, yf, _⟩ := H5.out.r1
            obtain ⟨⟨s0, s1, s2⟩, _, _⟩ := H5.out.r2
            go_wp2_with fail
            exact bodyPost_ret (v := .tuple #[.agg #[(.slice P1 l.length k1), .int .i64 x, (.slice Q1 m.length j1)], .string (⟨#[61]⟩ ++ ct)]) (by simp [results, Tryd.results36, go_sem, y0', y1', y2']) rfl (AlRes.mk_ HR.out HMK.out (ar_end H5.out.bel H5.out.sp H5.out.sq H5.out.aps))
      · have HR := Lib.hid (show R = (⟨l, x, m⟩, wNo) from HA.out.trans (lineA_two n2 n3 n4 n5))
        obtain ⟨⟨a0, a1, a2⟩, _, _⟩ := H4.out.r0
        obtain ⟨⟨y0', y1', y2'⟩, yf, _⟩ := H4.out.r1
        obtain ⟨⟨s0, s1, s2⟩, _, _⟩ := H4.out.r2
        go_wp2_with fail
        exact bodyPost_ret (v := .tuple #[.agg #[(.slice P1 l.length k1), .int .i64 x, (.slice Q1 m.length j1)], .string ⟨#[110, 111]⟩]) (by simp [results, Tryd.results36, go_sem, y0', y1', y2']) rfl (AlRes.mk_ HR.out rfl (ar_end H4.out.bel H4.out.sp H4.out.sq H4.out.aps))
    · have ew : vw = .slice WA 3 wc := ew
      subst ew
      obtain ⟨wb, wo, rfl, q0⟩ := hsw.getS (k := 0) (by simp)
      have q0 : w4.cell? ⟨wb, wo, none⟩ = some (.string z0) := q0
      obtain ⟨wb2, wo2, eq2, q1⟩ := hsw.getS (k := 1) (by simp)
      injection eq2 with eq2; injection eq2 with eq3 eq4
      subst eq3 eq4
      have q1 : w4.cell? ⟨wb, wo + 1, none⟩ = some (.string z1) := q1
      obtain ⟨wb2, wo2, eq2, q2⟩ := hsw.getS (k := 2) (by simp)
      injection eq2 with eq2; injection eq2 with eq3 eq4
      subst eq3 eq4
      have q2 : w4.cell? ⟨wb, wo + 2, none⟩ = some (.string z2) := q2
      have HA := Lib.hid (show R = lineA ⟨l, x, m⟩ [tx z0, tx z1, tx z2] by rw [HA0.out, ← HMT.out]; rfl)
      have e6 : (line.toList == [102, 105, 108, 101, 115]) = false := by
        rw [lit_tx, beq_eq_false_iff_ne]
        intro e
        have h := HE6.out e
        rw [← HMT.out] at h
        simp at h
      clear hsw hlew HA0 HL0 HE6 HNE HMT
      rcases words6 z0 with ⟨hw, e1, e2, e3, e4, e5⟩ | ⟨hw, e1, e2, e3, e4, e5⟩ | ⟨hw, e1, e2, e3, e4, e5⟩ | ⟨hw, e1, e2, e3, e4, e5⟩ | ⟨hw, e1, e2, e3, e4, e5⟩ | ⟨n1, n2, n3, n4, n5, e1, e2, e3, e4, e5⟩
      · have HRW := Lib.hid (HA.out.trans (lineA_write hw))
        have hX := fun W h => sWriteAt_any A c l x z1 z2 W h HCZ.out hle (by omega) HFP.out (HSZ.out z1 (by simp)) (HSZ.out z2 (by simp))
        unfold PutRes at hX
        generalize hres : writeA l x (tx z1) (tx z2) = RES at *
        obtain ⟨l5, r5, ok5⟩ := RES
        simp only at *
        have HX := Lib.hid hX
        clear hX hres
        obtain ⟨⟨a0, a1, a2⟩, _, _⟩ := H4.out.r0
        obtain ⟨⟨y0', y1', y2'⟩, yf, _⟩ := H4.out.r1
        obtain ⟨⟨s0, s1, s2⟩, _, _⟩ := H4.out.r2
        cases ok5
        · have HR := Lib.hid (show R = (⟨l, x, m⟩, wNo) from HRW.out)
          clear HRW
          go_wp2_with fail
          go_region_held3 (fun W => W.cell? ⟨w.heap.size, 0, none⟩ = some (.slice A l.length c) ∧ W.cell? ⟨w.heap.size, 1, none⟩ = some (.int .i64 x) ∧ W.cell? ⟨wb, wo + 1, none⟩ = some (.string z1) ∧ W.cell? ⟨wb, wo + 2, none⟩ = some (.string z2)) (first | exact ⟨a0, a1, q1, q2⟩ | exact ⟨Below_cells HY5.out _ _ _ a0, Below_cells HY5.out _ _ _ a1, Below_cells HY5.out _ _ _ q1, Below_cells HY5.out _ _ _ q2⟩)
            ((go_at_call 59; refine (HX.out _ (by first | exact HSW.out | exact HSW.out.drew)).mono ?_; rintro e w5 ⟨v5, rfl, hown5, hb5⟩; have hb5' := (show Below w4.heap.size w4 w5 from (by first | exact hb5 | exact Below_drew hb5)); have HY5 := Lib.hid hb5'; have HO5 := Lib.hid (hown5.mono (show w4.heap.size ≤ _ from Nat.le_refl _)); clear hown5 hb5 hb5'))
          all_goals
            obtain ⟨A5, c5, e5, _⟩ := HO5.out.sl
            subst e5
            have H5 := Lib.hid (((H4.out.below HY5.out).set 0 (.slice A5 l5.length c5)).set 1 (.int .i64 r5))
            obtain ⟨⟨o0, o1, o2⟩, of, ol⟩ := H4R.out.below HY5.out
            clear a0 a1 a2 y0' y1' y2' yf s0 s1 s2
            obtain ⟨⟨a0, a1, a2⟩, _, _⟩ := H5.out.r0
            obtain ⟨⟨y0', y1', y2'⟩, yf, _⟩ := H5.out.r1
            obtain ⟨⟨s0, s1, s2⟩, _, _⟩ := H5.out.r2
            go_wp2_with fail
            exact bodyPost_ret (v := .tuple #[.agg #[(.slice P1 l.length k1), .int .i64 x, (.slice Q1 m.length j1)], .string ⟨#[110, 111]⟩]) (by simp [results, Tryd.results36, go_sem, y0', y1', y2']) rfl (AlRes.mk_ HR.out rfl (ar_end H5.out.bel H5.out.sp H5.out.sq H5.out.aps))
        · have HR := Lib.hid (show R = (⟨l5, r5, m⟩, wOk) from HRW.out)
          clear HRW
          go_wp2_with fail
          go_region_held3 (fun W => W.cell? ⟨w.heap.size, 0, none⟩ = some (.slice A l.length c) ∧ W.cell? ⟨w.heap.size, 1, none⟩ = some (.int .i64 x) ∧ W.cell? ⟨wb, wo + 1, none⟩ = some (.string z1) ∧ W.cell? ⟨wb, wo + 2, none⟩ = some (.string z2)) (first | exact ⟨a0, a1, q1, q2⟩ | exact ⟨Below_cells HY5.out _ _ _ a0, Below_cells HY5.out _ _ _ a1, Below_cells HY5.out _ _ _ q1, Below_cells HY5.out _ _ _ q2⟩)
            ((go_at_call 59; refine (HX.out _ (by first | exact HSW.out | exact HSW.out.drew)).mono ?_; rintro e w5 ⟨v5, rfl, hown5, hb5⟩; have hb5' := (show Below w4.heap.size w4 w5 from (by first | exact hb5 | exact Below_drew hb5)); have HY5 := Lib.hid hb5'; have HO5 := Lib.hid (hown5.mono (show w4.heap.size ≤ _ from Nat.le_refl _)); clear hown5 hb5 hb5'))
          all_goals
            obtain ⟨A5, c5, e5, _⟩ := HO5.out.sl
            subst e5
            have H5 := Lib.hid (((H4.out.below HY5.out).set 0 (.slice A5 l5.length c5)).set 1 (.int .i64 r5))
            obtain ⟨⟨o0, o1, o2⟩, of, ol⟩ := H4R.out.below HY5.out
            have HW5 := Lib.hid ((HO5.out.setOther (b := w3.heap.size) (i := 0) (fun e => absurd (HO5.out.blk _ e).1 (by have := H4R.out.2.2; omega)) (.slice A5 l5.length c5)).setOther (b := w3.heap.size) (i := 1) (fun e => absurd (HO5.out.blk _ e).1 (by have := H4R.out.2.2; omega)) (.int .i64 r5))
            have HAP := Lib.hid (show ApartV (.slice A5 l5.length c5) (.slice Q2 m.length j2) from fun g hg hv => by
              have h1 := (HO5.out.blk g hg).1
              have h2 := (H4.out.oq.blk g hv).2
              omega)
            have hlo := H4.out.lo
            have hlt := H4.out.lt
            have hol := H4R.out.2.2
            clear a0 a1 a2 y0' y1' y2' yf s0 s1 s2
            obtain ⟨⟨a0, a1, a2⟩, _, _⟩ := H5.out.r0
            obtain ⟨⟨y0', y1', y2'⟩, yf, _⟩ := H5.out.r1
            obtain ⟨⟨s0, s1, s2⟩, _, _⟩ := H5.out.r2
            go_wp2_with fail
            exact bodyPost_ret (v := .tuple #[.agg #[(.slice A5 l5.length c5), .int .i64 r5, (.slice Q2 m.length j2)], .string ⟨#[111, 107]⟩]) (by simp [results, Tryd.results36, go_sem, y0', y1', y2']) rfl (AlRes.mk_ HR.out rfl (ar_end H5.out.bel (HW5.out.mono (by omega)) H5.out.oq HAP.out))
      · have HR := Lib.hid (show R = (⟨l, x, m⟩, wNo) from HA.out.trans (lineA_three (by rw [hw]; decide)))
        obtain ⟨⟨a0, a1, a2⟩, _, _⟩ := H4.out.r0
        obtain ⟨⟨y0', y1', y2'⟩, yf, _⟩ := H4.out.r1
        obtain ⟨⟨s0, s1, s2⟩, _, _⟩ := H4.out.r2
        go_wp2_with fail
        exact bodyPost_ret (v := .tuple #[.agg #[(.slice P1 l.length k1), .int .i64 x, (.slice Q1 m.length j1)], .string ⟨#[110, 111]⟩]) (by simp [results, Tryd.results36, go_sem, y0', y1', y2']) rfl (AlRes.mk_ HR.out rfl (ar_end H4.out.bel H4.out.sp H4.out.sq H4.out.aps))
      · have HR := Lib.hid (show R = (⟨l, x, m⟩, wNo) from HA.out.trans (lineA_three (by rw [hw]; decide)))
        obtain ⟨⟨a0, a1, a2⟩, _, _⟩ := H4.out.r0
        obtain ⟨⟨y0', y1', y2'⟩, yf, _⟩ := H4.out.r1
        obtain ⟨⟨s0, s1, s2⟩, _, _⟩ := H4.out.r2
        go_wp2_with fail
        exact bodyPost_ret (v := .tuple #[.agg #[(.slice P1 l.length k1), .int .i64 x, (.slice Q1 m.length j1)], .string ⟨#[110, 111]⟩]) (by simp [results, Tryd.results36, go_sem, y0', y1', y2']) rfl (AlRes.mk_ HR.out rfl (ar_end H4.out.bel H4.out.sp H4.out.sq H4.out.aps))
      · have HR := Lib.hid (show R = (⟨l, x, m⟩, wNo) from HA.out.trans (lineA_three (by rw [hw]; decide)))
        obtain ⟨⟨a0, a1, a2⟩, _, _⟩ := H4.out.r0
        obtain ⟨⟨y0', y1', y2'⟩, yf, _⟩ := H4.out.r1
        obtain ⟨⟨s0, s1, s2⟩, _, _⟩ := H4.out.r2
        go_wp2_with fail
        exact bodyPost_ret (v := .tuple #[.agg #[(.slice P1 l.length k1), .int .i64 x, (.slice Q1 m.length j1)], .string ⟨#[110, 111]⟩]) (by simp [results, Tryd.results36, go_sem, y0', y1', y2']) rfl (AlRes.mk_ HR.out rfl (ar_end H4.out.bel H4.out.sp H4.out.sq H4.out.aps))
      · have HR := Lib.hid (show R = (⟨l, x, m⟩, wNo) from HA.out.trans (lineA_three (by rw [hw]; decide)))
        obtain ⟨⟨a0, a1, a2⟩, _, _⟩ := H4.out.r0
        obtain ⟨⟨y0', y1', y2'⟩, yf, _⟩ := H4.out.r1
        obtain ⟨⟨s0, s1, s2⟩, _, _⟩ := H4.out.r2
        go_wp2_with fail
        exact bodyPost_ret (v := .tuple #[.agg #[(.slice P1 l.length k1), .int .i64 x, (.slice Q1 m.length j1)], .string ⟨#[110, 111]⟩]) (by simp [results, Tryd.results36, go_sem, y0', y1', y2']) rfl (AlRes.mk_ HR.out rfl (ar_end H4.out.bel H4.out.sp H4.out.sq H4.out.aps))
      · have HR := Lib.hid (show R = (⟨l, x, m⟩, wNo) from HA.out.trans (lineA_three n1))
        obtain ⟨⟨a0, a1, a2⟩, _, _⟩ := H4.out.r0
        obtain ⟨⟨y0', y1', y2'⟩, yf, _⟩ := H4.out.r1
        obtain ⟨⟨s0, s1, s2⟩, _, _⟩ := H4.out.r2
        go_wp2_with fail
        exact bodyPost_ret (v := .tuple #[.agg #[(.slice P1 l.length k1), .int .i64 x, (.slice Q1 m.length j1)], .string ⟨#[110, 111]⟩]) (by simp [results, Tryd.results36, go_sem, y0', y1', y2']) rfl (AlRes.mk_ HR.out rfl (ar_end H4.out.bel H4.out.sp H4.out.sq H4.out.aps))
    · obtain ⟨wb, wo, rfl, q0⟩ := hsw.getS (k := 0) (by simp)
      have q0 : w4.cell? ⟨wb, wo, none⟩ = some (.string z0) := q0
      have HA := Lib.hid (show R = lineA ⟨l, x, m⟩ (tx z0 :: tx z1 :: tx z2 :: tx z3 :: zr.map tx) by rw [HA0.out, ← HMT.out]; rfl)
      have e6 : (line.toList == [102, 105, 108, 101, 115]) = false := by
        rw [lit_tx, beq_eq_false_iff_ne]
        intro e
        have h := HE6.out e
        rw [← HMT.out] at h
        simp at h
      have hN4 : 4 ≤ (z0 :: z1 :: z2 :: z3 :: zr).length := by simp
      generalize (z0 :: z1 :: z2 :: z3 :: zr).length = N at *
      subst ew
      have hn3 : ((N : Int) == 3) = false := by rw [beq_eq_false_iff_ne]; omega
      have hn2 : ((N : Int) == 2) = false := by rw [beq_eq_false_iff_ne]; omega
      have hn0 : (0 : Int) < (N : Int) := by omega
      clear hsw hlew HA0 HL0 HE6 HNE HMT
      rcases words6 z0 with ⟨hw, e1, e2, e3, e4, e5⟩ | ⟨hw, e1, e2, e3, e4, e5⟩ | ⟨hw, e1, e2, e3, e4, e5⟩ | ⟨hw, e1, e2, e3, e4, e5⟩ | ⟨hw, e1, e2, e3, e4, e5⟩ | ⟨n1, n2, n3, n4, n5, e1, e2, e3, e4, e5⟩
      · have HR := Lib.hid (show R = (⟨l, x, m⟩, wNo) from HA.out.trans lineA_many)
        obtain ⟨⟨a0, a1, a2⟩, _, _⟩ := H4.out.r0
        obtain ⟨⟨y0', y1', y2'⟩, yf, _⟩ := H4.out.r1
        obtain ⟨⟨s0, s1, s2⟩, _, _⟩ := H4.out.r2
        go_wp2_with fail
        exact bodyPost_ret (v := .tuple #[.agg #[(.slice P1 l.length k1), .int .i64 x, (.slice Q1 m.length j1)], .string ⟨#[110, 111]⟩]) (by simp [results, Tryd.results36, go_sem, y0', y1', y2']) rfl (AlRes.mk_ HR.out rfl (ar_end H4.out.bel H4.out.sp H4.out.sq H4.out.aps))
      · have HR := Lib.hid (show R = (⟨l, x, m⟩, wNo) from HA.out.trans lineA_many)
        obtain ⟨⟨a0, a1, a2⟩, _, _⟩ := H4.out.r0
        obtain ⟨⟨y0', y1', y2'⟩, yf, _⟩ := H4.out.r1
        obtain ⟨⟨s0, s1, s2⟩, _, _⟩ := H4.out.r2
        go_wp2_with fail
        exact bodyPost_ret (v := .tuple #[.agg #[(.slice P1 l.length k1), .int .i64 x, (.slice Q1 m.length j1)], .string ⟨#[110, 111]⟩]) (by simp [results, Tryd.results36, go_sem, y0', y1', y2']) rfl (AlRes.mk_ HR.out rfl (ar_end H4.out.bel H4.out.sp H4.out.sq H4.out.aps))
      · have HR := Lib.hid (show R = (⟨l, x, m⟩, wNo) from HA.out.trans lineA_many)
        obtain ⟨⟨a0, a1, a2⟩, _, _⟩ := H4.out.r0
        obtain ⟨⟨y0', y1', y2'⟩, yf, _⟩ := H4.out.r1
        obtain ⟨⟨s0, s1, s2⟩, _, _⟩ := H4.out.r2
        go_wp2_with fail
        exact bodyPost_ret (v := .tuple #[.agg #[(.slice P1 l.length k1), .int .i64 x, (.slice Q1 m.length j1)], .string ⟨#[110, 111]⟩]) (by simp [results, Tryd.results36, go_sem, y0', y1', y2']) rfl (AlRes.mk_ HR.out rfl (ar_end H4.out.bel H4.out.sp H4.out.sq H4.out.aps))
      · have HR := Lib.hid (show R = (⟨l, x, m⟩, wNo) from HA.out.trans lineA_many)
        obtain ⟨⟨a0, a1, a2⟩, _, _⟩ := H4.out.r0
        obtain ⟨⟨y0', y1', y2'⟩, yf, _⟩ := H4.out.r1
        obtain ⟨⟨s0, s1, s2⟩, _, _⟩ := H4.out.r2
        go_wp2_with fail
        exact bodyPost_ret (v := .tuple #[.agg #[(.slice P1 l.length k1), .int .i64 x, (.slice Q1 m.length j1)], .string ⟨#[110, 111]⟩]) (by simp [results, Tryd.results36, go_sem, y0', y1', y2']) rfl (AlRes.mk_ HR.out rfl (ar_end H4.out.bel H4.out.sp H4.out.sq H4.out.aps))
      · have HR := Lib.hid (show R = (⟨l, x, m⟩, wNo) from HA.out.trans lineA_many)
        obtain ⟨⟨a0, a1, a2⟩, _, _⟩ := H4.out.r0
        obtain ⟨⟨y0', y1', y2'⟩, yf, _⟩ := H4.out.r1
        obtain ⟨⟨s0, s1, s2⟩, _, _⟩ := H4.out.r2
        go_wp2_with fail
        exact bodyPost_ret (v := .tuple #[.agg #[(.slice P1 l.length k1), .int .i64 x, (.slice Q1 m.length j1)], .string ⟨#[110, 111]⟩]) (by simp [results, Tryd.results36, go_sem, y0', y1', y2']) rfl (AlRes.mk_ HR.out rfl (ar_end H4.out.bel H4.out.sp H4.out.sq H4.out.aps))
      · have HR := Lib.hid (show R = (⟨l, x, m⟩, wNo) from HA.out.trans lineA_many)
        obtain ⟨⟨a0, a1, a2⟩, _, _⟩ := H4.out.r0
        obtain ⟨⟨y0', y1', y2'⟩, yf, _⟩ := H4.out.r1
        obtain ⟨⟨s0, s1, s2⟩, _, _⟩ := H4.out.r2
        go_wp2_with fail
        exact bodyPost_ret (v := .tuple #[.agg #[(.slice P1 l.length k1), .int .i64 x, (.slice Q1 m.length j1)], .string ⟨#[110, 111]⟩]) (by simp [results, Tryd.results36, go_sem, y0', y1', y2']) rfl (AlRes.mk_ HR.out rfl (ar_end H4.out.bel H4.out.sp H4.out.sq H4.out.aps))
end Go.Proofs.YtkglfmgmmnfmbaaDoor
