/- DrawOverQuotas; FnOverQuotas, walked: who has too much has more than Most. Written by gen_oq.py. -/
import Derived.Test.YtedcgbmdfmgcgaaGreatDoorM5
import Derived.Test.YtedcgbmdfmgcgaaGreatDoorUo
import Derived.Test.YtedcgbmdfmgcgaaGreatDoorDq2
set_option linter.unusedVariables false
namespace Go.Proofs.YtedcgbmdfmgcgaaGreatDoor
open Go.RowKit
def OqRes (w : World) (e : Ending) (w' : World) : Prop :=
  ∃ (v : Value) (l : List Pc) (root : Int) (u : Value) (m : List Qt), e = .returned (.tuple #[v, .int .i64 root, u]) ∧ Own w' w.heap.size 83 2 encP v l ∧ StG l ∧ Own w' w.heap.size 52 2 encQ u m ∧ FewQ m ∧ Below w.heap.size w w'
set_option maxHeartbeats 4000000 in
set_option maxRecDepth 100000 in
theorem DrawOverQuotas_any (A : Option Addr) (n c : Nat) (w : World) (hb : BytesIn w A n c) : Calls Tryz.prog 25 #[.slice A n c] w (OqRes w) := by
  go_enter Tryz.func25, Tryz.ntmps25
  go_wp2_with fail
  refine (l20Rooted_any _ _ _ _ hb).mono ?_
  rintro e w1 ⟨V, l, rt, rfl, hown, hg, hb1⟩
  have HW := Lib.hid hown
  have HG := Lib.hid hg
  have HB := Lib.hid hb1
  have HBI := Lib.hid (hb.below hb1)
  clear hown hg hb1
  go_wp2_with fail
  refine (l20Open_any _ _ _ _ HBI.out).mono ?_
  rintro e w2 ⟨rfl, hb2, hr2, hz2⟩
  have HR2 := Lib.hid hr2
  have HB2 := Lib.hid hb2
  clear hr2 hb2
  go_wp2_with fail
  refine (l20Quotas_any _ _ _ _ HR2.out (by omega) (by omega)).mono ?_
  rintro e w3 ⟨v3, m, p3, rfl, hown3, hm3, ho3, hr3, hp3⟩
  have HW3 := Lib.hid hown3
  have HM3 := Lib.hid hm3
  have HB3 := Lib.hid (show Below w1.heap.size w1 w3 from HB2.out.trans (ho3.below (Nat.le_refl _) (by omega)))
  clear hown3 hm3 ho3 hr3
  go_wp2
  go_ret3
  exact ⟨_, l, _, _, m, rfl, HW.out.below HB3.out, HG.out, HW3.out.mono (Nat.le_trans HB.out.size HB2.out.size), HM3.out, Below_then HB.out HB3.out (Nat.le_refl _)⟩
theorem FewQ.fit {m : List Qt} (h : FewQ m) : FitQ m := fun q hq => Nat.le_trans (h.2 q hq) (by omega)
set_option maxHeartbeats 8000000 in
set_option maxRecDepth 100000 in
theorem wFnOverQuotas (A : Option Addr) (n c : Nat) (w : World) (hb : BytesIn w A n c) (hm : MaxL w) (ht : TzL w) : Calls Tryz.prog 6 #[.slice A n c] w (LawOk w) := by
  by_cases h : n ≤ 1048576
  case neg =>
    go_enter Tryz.func6, Tryz.ntmps6
    go_wp2
    go_ret
    exact ⟨rfl, Below.refl _ _⟩
  have HBI := Lib.hid hb
  have HM := Lib.hid hm
  have HT := Lib.hid ht
  clear hb hm ht
  go_enter Tryz.func6, Tryz.ntmps6
  go_wp2_with fail
  refine (DrawOverQuotas_any _ _ _ _ HBI.out).mono ?_
  rintro e w1 ⟨v1, s, root, u1, l, rfl, hown1, hg1, hownq, hfq, hb1⟩
  obtain ⟨A1, c1, rfl, hle1, hs1, _⟩ := hown1.sl
  obtain ⟨B1, d1, rfl, hled, hsq, _⟩ := hownq.sl
  have HS1 := Lib.hid hs1
  have HQ1 := Lib.hid hsq
  have HB1 := Lib.hid hb1
  have HM1 := Lib.hid (HM.out.below hb1)
  have HT1 := Lib.hid (HT.out.below hb1)
  have HF := Lib.hid hg1.fitP
  have HFQ := Lib.hid hfq.fit
  have hl1 := hg1.len
  have hl5 := hfq.1
  clear hown1 hs1 hb1 hg1 hownq hsq hfq
  have hI := fun w h h2 h3 h4 => iOverQuotas_any A1 B1 c1 d1 s root l w h (by omega) HF.out h2 hled (by omega) HFQ.out h3 h4
  have hS := fun w h h2 => sOverQuotas_any A1 B1 c1 d1 s root l w h (by omega) HF.out h2 (by omega) HFQ.out
  have hNO := fun w h h2 h3 h4 => iOverQuotas_any A1 B1 c1 d1 s (-1) l w h (by omega) HF.out h2 hled (by omega) HFQ.out h3 h4
  rw [over_none] at hNO
  have hQV := fun w h h2 => iQuotasValid_any B1 d1 l w h hled (by omega) HFQ.out h2
  have hSV := fun w h => iStoreValid_any A1 c1 s w h (by omega) HF.out
  have HU := Lib.hid (fun p w h h1 h2 h3 => iUsedBelow_any A1 c1 s root p w h (by omega) HF.out h1 h2 h3)
  have hXl := overR_len s root l
  have hXN := fun h => overR_no (s := s) (root := root) (l := l) h
  have hXY := fun h h2 => overR_yes (s := s) (root := root) (l := l) h h2
  unfold OwnRes at hI hS hNO
  generalize hX : overR s root l = X at *
  have HSAME := Lib.hid (fun A2 A3 c2 c3 w h1 h2 => l_sameTexts_same A2 A3 c2 c3 X w h1 h2 (by omega))
  have HI := Lib.hid hI
  have HS := Lib.hid hS
  have HNONE := Lib.hid hNO
  clear hI hS hNO hX
  go_wp2_with fail
  refine (HI.out _ HS1.out HQ1.out HT1.out HM1.out).mono ?_
  rintro e w2 ⟨v2, rfl, hown2, hb2⟩
  obtain ⟨A2, c2, rfl, hle2, hs2, _⟩ := hown2.sl
  have HX2 := Lib.hid hs2
  have HB2 := Lib.hid (Below_then HB1.out hb2 (Nat.le_refl _))
  have HS2 := Lib.hid (HS1.out.below hb2)
  have HQ2 := Lib.hid (HQ1.out.below hb2)
  have HM2 := Lib.hid (HM1.out.below hb2)
  have HT2 := Lib.hid (HT1.out.below hb2)
  clear hown2 hs2 hb2
  go_wp2_with fail
  refine (HS.out _ HS2.out HQ2.out).mono ?_
  rintro e w3 ⟨v3, rfl, hown3, hb3⟩
  obtain ⟨A3, c3, rfl, hle3, hs3, _⟩ := hown3.sl
  have HX3 := Lib.hid (HX2.out.below hb3)
  have HY3 := Lib.hid hs3
  have HB3 := Lib.hid (Below_then HB2.out hb3 (Nat.le_refl _))
  have HS3 := Lib.hid (HS2.out.below hb3)
  have HQ3 := Lib.hid (HQ2.out.below hb3)
  have HM3 := Lib.hid (HM2.out.below hb3)
  have HT3 := Lib.hid (HT2.out.below hb3)
  clear hown3 hs3 hb3
  go_wp2_with fail
  refine (HSAME.out A2 A3 c2 c3 _ HX3.out HY3.out).mono ?_
  rintro e w4 ⟨rfl, hd4⟩
  have hb4 := hd4.below
  have HX4 := Lib.hid (HX3.out.below hb4)
  have HB4 := Lib.hid (Below_then HB3.out hb4 (Nat.le_refl _))
  have HS4 := Lib.hid (HS3.out.below hb4)
  have HQ4 := Lib.hid (HQ3.out.below hb4)
  have HM4 := Lib.hid (HM3.out.below hb4)
  have HT4 := Lib.hid (HT3.out.below hb4)
  clear hd4 hb4
  by_cases hl0 : l.length = 0
  · have hz : X.length = 0 := by omega
    have hz' : ((0 : Int) == (X.length : Int)) = true := by rw [beq_iff_eq]; omega
    have hlz : ¬ (0 : Int) < (l.length : Int) := by omega
    clear hQV hSV hXN hXY hXl hz hl0
    go_wp2_with fail
    go_loopw [7, 8] (fun va vk wr => vk = .int .i64 0 ∧ va = .int .i64 0 ∧ wr = w4) (fun _ _ _ => 0)
    case atStart => exact ⟨rfl, rfl, rfl⟩
    case round =>
      obtain ⟨rfl, rfl, rfl⟩ := hrel
      have HBx := HB4
      have HSx := HS4
      have HQx := HQ4
      have HTx := HT4
      have HMx := HM4
      go_wp2_with fail
      refine (HNONE.out _ HSx.out HQx.out HTx.out HMx.out).mono ?_
      rintro e w9 ⟨v9, rfl, hown9, hb9⟩
      obtain ⟨A9, c9, e9, hle9, _, _⟩ := hown9.sl
      have HB9 := Lib.hid (Below_then HBx.out hb9 (Nat.le_refl _))
      have e9 : v9 = .slice A9 0 c9 := e9
      subst e9
      clear hown9 hb9
      go_wp2_with (go_at_call 12; refine (alive_any _).mono ?_; rintro e w' ⟨rfl, rfl⟩)
      go_ret
      exact ⟨rfl, HB9.out⟩
  have hlp : (0 : Int) < (l.length : Int) := by omega
  cases hq : quoV l
  · have hz : X.length = 0 := by rw [hXN (.inl hq)]; rfl
    have hz' : ((0 : Int) == (X.length : Int)) = true := by rw [beq_iff_eq]; omega
    rw [hq] at hQV
    have HQV := Lib.hid hQV
    clear hQV hSV hXN hXY hq hz
    go_wp2_with fail
    go_loopw [7, 8] (fun va vk wr => vk = .int .i64 0 ∧ va = .int .i64 0 ∧ wr = w4) (fun _ _ _ => 0)
    case atStart => exact ⟨rfl, rfl, rfl⟩
    case round =>
      obtain ⟨rfl, rfl, rfl⟩ := hrel
      have HBx := HB4
      have HSx := HS4
      have HQx := HQ4
      have HTx := HT4
      have HMx := HM4
      go_wp2_with fail
      refine (HQV.out _ HQx.out HMx.out).mono ?_
      rintro e w5 ⟨rfl, hb⟩
      replace HBx := Lib.hid (Below_then HBx.out hb (Nat.le_refl _))
      replace HSx := Lib.hid (HSx.out.below hb)
      replace HQx := Lib.hid (HQx.out.below hb)
      replace HTx := Lib.hid (HTx.out.below hb)
      replace HMx := Lib.hid (HMx.out.below hb)
      clear hb
      go_wp2_with fail
      refine (HNONE.out _ HSx.out HQx.out HTx.out HMx.out).mono ?_
      rintro e w9 ⟨v9, rfl, hown9, hb9⟩
      obtain ⟨A9, c9, e9, hle9, _, _⟩ := hown9.sl
      have HB9 := Lib.hid (Below_then HBx.out hb9 (Nat.le_refl _))
      have e9 : v9 = .slice A9 0 c9 := e9
      subst e9
      clear hown9 hb9
      go_wp2_with (go_at_call 12; refine (alive_any _).mono ?_; rintro e w' ⟨rfl, rfl⟩)
      go_ret
      exact ⟨rfl, HB9.out⟩
  · rw [hq] at hQV
    cases hv : storeV s
    · have hz : X.length = 0 := by rw [hXN (.inr hv)]; rfl
      have hz' : ((0 : Int) == (X.length : Int)) = true := by rw [beq_iff_eq]; omega
      rw [hv] at hSV
      have HQV := Lib.hid hQV
      have HSV := Lib.hid hSV
      clear hQV hSV hXN hXY hq hv hz
      go_wp2_with fail
      go_loopw [7, 8] (fun va vk wr => vk = .int .i64 0 ∧ va = .int .i64 0 ∧ wr = w4) (fun _ _ _ => 0)
      case atStart => exact ⟨rfl, rfl, rfl⟩
      case round =>
        obtain ⟨rfl, rfl, rfl⟩ := hrel
        have HBx := HB4
        have HSx := HS4
        have HQx := HQ4
        have HTx := HT4
        have HMx := HM4
        go_wp2_with fail
        refine (HQV.out _ HQx.out HMx.out).mono ?_
        rintro e w5 ⟨rfl, hb⟩
        replace HBx := Lib.hid (Below_then HBx.out hb (Nat.le_refl _))
        replace HSx := Lib.hid (HSx.out.below hb)
        replace HQx := Lib.hid (HQx.out.below hb)
        replace HTx := Lib.hid (HTx.out.below hb)
        replace HMx := Lib.hid (HMx.out.below hb)
        clear hb
        go_wp2_with fail
        refine (HSV.out _ HSx.out).mono ?_
        rintro e w6 ⟨rfl, hb⟩
        replace HBx := Lib.hid (Below_then HBx.out hb (Nat.le_refl _))
        replace HSx := Lib.hid (HSx.out.below hb)
        replace HQx := Lib.hid (HQx.out.below hb)
        replace HTx := Lib.hid (HTx.out.below hb)
        replace HMx := Lib.hid (HMx.out.below hb)
        clear hb
        go_wp2_with fail
        refine (HNONE.out _ HSx.out HQx.out HTx.out HMx.out).mono ?_
        rintro e w9 ⟨v9, rfl, hown9, hb9⟩
        obtain ⟨A9, c9, e9, hle9, _, _⟩ := hown9.sl
        have HB9 := Lib.hid (Below_then HBx.out hb9 (Nat.le_refl _))
        have e9 : v9 = .slice A9 0 c9 := e9
        subst e9
        clear hown9 hb9
        go_wp2_with (go_at_call 12; refine (alive_any _).mono ?_; rintro e w' ⟨rfl, rfl⟩)
        go_ret
        exact ⟨rfl, HB9.out⟩
    · have hX := hXY hq hv
      rw [hv] at hSV
      have hAT : ∃ AT : Nat → Nat, ∀ k, AT k = (overB s root (l.take k)).length := ⟨_, fun _ => rfl⟩
      obtain ⟨AT, hAT⟩ := hAT
      have HA0 := Lib.hid (show AT 0 = 0 by rw [hAT]; rfl)
      have HAN := Lib.hid (fun k (hk : k < l.length) => show AT (k + 1) = AT k + if overQ s root l[k] then 1 else 0 by
        rw [hAT, hAT, overB_next hk, List.length_append]
        split <;> rfl)
      have HAE := Lib.hid (show AT l.length = X.length by rw [hAT, hX, List.take_length])
      have HAB := Lib.hid (fun k => show AT k ≤ 5 by
        rw [hAT]
        have h1 := overB_len s root (l.take k)
        rw [List.length_take] at h1; omega)
      have HYES := Lib.hid (fun k (hk : k < l.length) (hp : overQ s root l[k] = true) => show X[AT k]? = some l[k].1 by rw [hAT, hX]; exact over_at hk hp)
      have HNO := Lib.hid (fun k (hk : k < l.length) (hp : overQ s root l[k] = false) (h : AT k < X.length) => show X[AT k] ≠ l[k].1 from over_no hq hk hp (j := AT k) (by rw [← hX]; exact List.getElem?_eq_getElem h))
      have HQV := Lib.hid hQV
      have HSV := Lib.hid hSV
      have HUB := Lib.hid (fun p => usedP_bd (s := s) (root := root) (path := p))
      clear hQV hSV hXN hXY hq hv hX hAT
      go_wp2_with fail
      go_loopw [7, 8] (fun va vk wr => ∃ (k : Nat), k ≤ l.length ∧ vk = .int .i64 k ∧ va = .int .i64 (AT k : Int) ∧ Hid (Below w4.heap.size w4 wr)) (fun _ vk _ => l.length - (intOf vk).toNat)
      case atStart => exact ⟨0, Nat.zero_le _, rfl, by rw [HA0.out]; rfl, Below.refl _ _⟩
      case round =>
        obtain ⟨k, hk, rfl, rfl, HBW⟩ := hrel
        have hab := HAB.out k
        by_cases hlt : k < l.length
        · have hlt' : (k : Int) < (l.length : Int) := by omega
          have HSW := Lib.hid (HS4.out.below HBW.out)
          have HQW := Lib.hid (HQ4.out.below HBW.out)
          have HMW := Lib.hid (HM4.out.below HBW.out)
          have HTW := Lib.hid (HT4.out.below HBW.out)
          have HXW := Lib.hid (HX4.out.below HBW.out)
          obtain ⟨b, o, hBb, _, _⟩ := HQW.out.getQ hlt
          subst hBb
          have HGQ := Lib.hid (fun (w : World) (h : Sl w encQ 2 (some ⟨b, o, none⟩) l) => h.getQ hlt)
          have hsz := HFQ.out _ (List.getElem_mem hlt)
          have hn := HAN.out k hlt
          have hyes := HYES.out k hlt
          have hno := HNO.out k hlt
          have hu := HUB.out (bs l[k].1)
          have hov : overQ s root l[k] = decide (usedP s root (bs l[k].1) > l[k].2) := rfl
          rw [hov] at hn hyes hno
          have hU := fun w h h2 h3 => HU.out l[k].1 w h hsz h2 h3
          go_wp2_with fail
          refine (HQV.out _ HQW.out HMW.out).mono ?_
          rintro e w5 ⟨rfl, hb⟩
          replace HBW := Lib.hid (Below_then HBW.out hb (Nat.le_refl _))
          replace HSW := Lib.hid (HSW.out.below hb)
          replace HQW := Lib.hid (HQW.out.below hb)
          replace HXW := Lib.hid (HXW.out.below hb)
          replace HTW := Lib.hid (HTW.out.below hb)
          replace HMW := Lib.hid (HMW.out.below hb)
          clear hb
          go_wp2_with fail
          refine (HSV.out _ HSW.out).mono ?_
          rintro e w6 ⟨rfl, hb⟩
          replace HBW := Lib.hid (Below_then HBW.out hb (Nat.le_refl _))
          replace HSW := Lib.hid (HSW.out.below hb)
          replace HQW := Lib.hid (HQW.out.below hb)
          replace HXW := Lib.hid (HXW.out.below hb)
          replace HTW := Lib.hid (HTW.out.below hb)
          replace HMW := Lib.hid (HMW.out.below hb)
          clear hb
          obtain ⟨b2, o2, e2, hc0, hc1⟩ := HGQ.out _ HQW.out
          injection e2 with e2; injection e2 with e3 e4
          subst e3 e4
          generalize l[k] = q at *
          obtain ⟨p, x⟩ := q
          simp only at *
          generalize usedP s root (bs p) = u at *
          have HUX := Lib.hid hU
          clear hU hov
          have HSF := Lib.hid (fun f => HSW.out.below (far_below w6 f))
          have HTF := Lib.hid (fun f => HTW.out.below (far_below w6 f))
          have HMF := Lib.hid (fun f => HMW.out.below (far_below w6 f))
          have z0 := far_cell hc0
          have z1 := far_cell hc1
          by_cases hgt : x < u
          · have HN := Lib.hid (show AT (k + 1) = AT k + 1 by rw [hn, decide_eq_true hgt]; rfl)
            have hy := hyes (decide_eq_true hgt)
            clear hn hyes hno
            generalize AT k = j at *
            have hj : j < X.length := (List.getElem?_eq_some_iff.1 hy).1
            have hj' : (j : Int) < (X.length : Int) := by omega
            have HXJ := Lib.hid (show X[j] = p from Option.some.inj ((List.getElem?_eq_getElem hj).symm.trans hy))
            clear hy
            go_wp2
            refine wp_region_far (by kernel_rfl) (by kernel_rfl) ?_
            repeat (go_big_quiet_step ((go_at_call 16; exact far_call (HUX.out _ (HSF.out _) (HTF.out _) (HMF.out _)))))
            refine wpQuiet_nil ?_
            intro _ hwF
            obtain ⟨pF, hwF⟩ := hwF
            subst hwF
            have HBF := Lib.hid (Below_then HBW.out (far_below _ pF) (Nat.le_refl _))
            have HXF := Lib.hid (HXW.out.below (far_below _ pF))
            replace z0 := z0 pF
            replace z1 := z1 pF
            generalize far _ pF = wF at *
            clear hc0 hc1
            obtain ⟨xb, xo, rfl, hcx⟩ := HXF.out.getS hj
            rw [HXJ.out] at hcx
            go_wp2
            go_quiet (fail)
            go_wp2
            go_roundw
            case rel => exact ⟨k + 1, by omega, by go_num, by rw [HN.out]; go_num, Below_drewN HBF.out _⟩
            case measure => simp [intOf]; omega
          · have HN := Lib.hid (show AT (k + 1) = AT k by rw [hn, decide_eq_false hgt]; rfl)
            have HNE := Lib.hid (hno (decide_eq_false hgt))
            clear hn hyes hno
            generalize AT k = j at *
            go_wp2
            refine wp_region_far (by kernel_rfl) (by kernel_rfl) ?_
            repeat (go_big_quiet_step ((go_at_call 16; exact far_call (HUX.out _ (HSF.out _) (HTF.out _) (HMF.out _)))))
            refine wpQuiet_nil ?_
            intro _ hwF
            obtain ⟨pF, hwF⟩ := hwF
            subst hwF
            have HBF := Lib.hid (Below_then HBW.out (far_below _ pF) (Nat.le_refl _))
            have HXF := Lib.hid (HXW.out.below (far_below _ pF))
            replace z0 := z0 pF
            replace z1 := z1 pF
            generalize far _ pF = wF at *
            clear hc0 hc1
            by_cases hj : j < X.length
            · have hj' : (j : Int) < (X.length : Int) := by omega
              obtain ⟨xb, xo, rfl, hcx⟩ := HXF.out.getS hj
              have hne : (X[j].toList == p.toList) = false := by
                rw [eq_tl, beq_eq_false_iff_ne]
                exact fun e => HNE.out hj (tx_inj e)
              generalize X[j] = y at *
              go_wp2
              go_quiet (fail)
              go_wp2
              go_roundw
              case rel => exact ⟨k + 1, by omega, by go_num, by rw [HN.out], Below_drewN HBF.out _⟩
              case measure => simp [intOf]; omega
            · have hj' : ¬ (j : Int) < (X.length : Int) := by omega
              go_wp2
              go_quiet (fail)
              go_wp2
              go_roundw
              case rel => exact ⟨k + 1, by omega, by go_num, by rw [HN.out], Below_drewN HBF.out _⟩
              case measure => simp [intOf]; omega
        · have hlt' : ¬ (k : Int) < (l.length : Int) := by omega
          obtain rfl : k = l.length := by omega
          have HBx := Lib.hid (Below_then HB4.out HBW.out (Nat.le_refl _))
          have HSx := Lib.hid (HS4.out.below HBW.out)
          have HQx := Lib.hid (HQ4.out.below HBW.out)
          have HTx := Lib.hid (HT4.out.below HBW.out)
          have HMx := Lib.hid (HM4.out.below HBW.out)
          have hae := HAE.out
          have hq : ((AT l.length : Int) == (X.length : Int)) = true := by rw [beq_iff_eq, hae]
          clear hae hab
          generalize AT l.length = j at *
          go_wp2_with fail
          refine (HNONE.out _ HSx.out HQx.out HTx.out HMx.out).mono ?_
          rintro e w9 ⟨v9, rfl, hown9, hb9⟩
          obtain ⟨A9, c9, e9, hle9, _, _⟩ := hown9.sl
          have HB9 := Lib.hid (Below_then HBx.out hb9 (Nat.le_refl _))
          have e9 : v9 = .slice A9 0 c9 := e9
          subst e9
          clear hown9 hb9
          go_wp2_with (go_at_call 12; refine (alive_any _).mono ?_; rintro e w' ⟨rfl, rfl⟩)
          go_ret
          exact ⟨rfl, HB9.out⟩
end Go.Proofs.YtedcgbmdfmgcgaaGreatDoor
