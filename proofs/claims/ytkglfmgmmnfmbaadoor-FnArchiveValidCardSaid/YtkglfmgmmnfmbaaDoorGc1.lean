/- Texts in one: Ax, Lm. -/
import Derived.Test.YtkglfmgmmnfmbaaDoorGc0
import Derived.Test.YtkglfmgmmnfmbaaDoorGb6
import Derived.Test.YtkglfmgmmnfmbaaDoorGa4
/- ArchiveValid of the reference, walked. -/
set_option linter.unusedVariables false
namespace Go.Proofs.YtkglfmgmmnfmbaaDoor
open Go.RowKit
def textAt (l : List Pc) (p : Int) : ByteArray := (getT l p).getD ⟨#[]⟩
theorem kind_at (l : List Pc) (p : Int) : (textK (bs (textAt l p)) = 2) = ((folderOf l p).isSome = true) := by
  unfold textAt folderOf
  cases getT l p with
  | none => simp only [Option.getD_none, Option.bind_none]; decide
  | some t => rw [Option.getD_some, Option.bind_some]; exact propext textK_two
theorem textAt_size {l : List Pc} (hv : storeV l = true) (p : Int) : (textAt l p).size ≤ 1048576 := by
  unfold textAt
  cases hg : getT l p with
  | none => simp [ByteArray.size]
  | some t => have := textV_size (getT_valid hv hg).1; simp only [Option.getD_some]; have h2 : t.size ≤ 60 := this; omega
theorem kind_no {l : List Pc} {p : Int} (h : folderOf l p = none) : textK (bs (textAt l p)) ≠ 2 := by
  rw [Ne, kind_at, h]; simp
theorem kind_yes {l : List Pc} {p : Int} (h : (folderOf l p).isSome = true) : textK (bs (textAt l p)) = 2 := by
  rw [kind_at]; exact h
set_option maxHeartbeats 2000000 in
set_option maxRecDepth 100000 in
theorem sArchiveValid_any (A B : Option Addr) (c d : Nat) (l : List Pc) (m : List Vr) (x : Int) (w : World) (hs : Sl w encP 2 A l) (hl : l.length ≤ 16777216) (hf : FitP l) (ht : Sl w encV 3 B m) (hl2 : m.length ≤ 16777216) (hf2 : FitV m) :
    Calls Tryd.prog 7 #[.agg #[.slice A l.length c, .int .i64 x, .slice B m.length d]] w fun e w' => e = .returned (.bool (archV ⟨l, x, m⟩)) ∧ Below w.heap.size w w' := by
  have HS := Lib.hid hs
  have HT := Lib.hid ht
  have hSV := fun w h => sStoreValid_any A c l w h hl hf
  have hVV : ∀ w, Sl w encV 3 B m → Calls Tryd.prog 19 #[.slice B m.length d] w fun e w' => e = .returned (.bool (versV m)) ∧ Below w.heap.size w w' := fun w h => by
    first
      | exact sVersionsValid_any B d m w h hl2 hf2
      | exact (sVersionsValid_any B d m w h hl2 hf2).mono fun _ _ ⟨h1, h2⟩ => ⟨h1, h2 ▸ Below.refl _ _⟩
  have N1 := Lib.hid (@archV_no1 ⟨l, x, m⟩)
  have N2 := Lib.hid (@archV_no2 ⟨l, x, m⟩)
  have N3 := Lib.hid (@archV_no3 ⟨l, x, m⟩)
  have N4 := Lib.hid (fun k (hk : k < m.length) (h : folderOf l m[k].1 = none) => @archV_no4 ⟨l, x, m⟩ k hk h)
  have Y := Lib.hid (fun h1 h2 h3 (h4 : ∀ k (h : k < m.length), (folderOf l m[k].1).isSome = true) => @archV_yes ⟨l, x, m⟩ h1 h2 h3 h4)
  have HG := Lib.hid (fun p w h => (sl4Get_any A c l p w h hl).mono fun e w' ⟨h1, h2⟩ => (⟨h1, h2⟩ : e = Ending.returned (.tuple #[.string (textAt l p), .bool (getT l p).isSome]) ∧ w = w'))
  clear hs ht
  generalize hR : archV ⟨l, x, m⟩ = R at *
  clear hR
  cases hv : storeV l
  · have HE := Lib.hid (N1.out hv)
    rw [hv] at hSV
    have HSV := Lib.hid hSV
    clear hSV hVV hv N1 N2 N3 N4 Y
    go_enter Tryd.func7, Tryd.ntmps7
    go_wp2_with fail
    refine (HSV.out _ (HS.out.alloc _)).mono ?_
    rintro e w1 ⟨rfl, hb⟩
    have HB := Lib.hid (Below_of_alloc hb)
    clear hb
    go_wp2
    go_ret
    exact ⟨ret_bool HE.out.symm, HB.out⟩
  · rw [hv] at hSV
    have HSV := Lib.hid hSV
    have HTK := Lib.hid (fun p w => sTextKind_any (textAt l p) w (textAt_size hv p))
    have HV := Lib.hid hv
    clear hSV hv
    cases hw : versV m
    · have HE := Lib.hid (N2.out hw)
      rw [hw] at hVV
      have HVV := Lib.hid hVV
      clear hVV hw N1 N2 N3 N4 Y
      go_enter Tryd.func7, Tryd.ntmps7
      go_wp2_with fail
      refine (HSV.out _ (HS.out.alloc _)).mono ?_
      rintro e w1 ⟨rfl, hb⟩
      obtain ⟨⟨x0, x1, x2⟩, _, _⟩ := Row3.new.below hb
      have HB := Lib.hid (Below_of_alloc hb)
      clear hb
      go_wp2_with fail
      refine (HVV.out _ (HT.out.below HB.out)).mono ?_
      rintro e w2 ⟨rfl, hb⟩
      have HB2 := Lib.hid (Below_then HB.out hb (Nat.le_refl _))
      clear hb
      go_wp2
      go_ret
      exact ⟨ret_bool HE.out.symm, HB2.out⟩
    · rw [hw] at hVV
      have HVV := Lib.hid hVV
      have HW := Lib.hid hw
      clear hVV hw
      have hTKx := HTK.out x
      have hGx := HG.out x
      cases ho : folderOf l x with
      | none =>
        have HE := Lib.hid (N3.out ho)
        have hk := kind_no ho
        clear ho N1 N2 N3 N4 Y
        generalize textK (bs (textAt l x)) = K at *
        generalize textAt l x = TX at *
        generalize (getT l x).isSome = GB at *
        have HTKX := Lib.hid hTKx
        have HGX := Lib.hid hGx
        clear hTKx hGx
        go_enter Tryd.func7, Tryd.ntmps7
        go_wp2_with fail
        refine (HSV.out _ (HS.out.alloc _)).mono ?_
        rintro e w1 ⟨rfl, hb⟩
        obtain ⟨⟨x0, x1, x2⟩, _, _⟩ := Row3.new.below hb
        have HB := Lib.hid (Below_of_alloc hb)
        have HRW := Lib.hid (Row3.new.below hb)
        clear hb
        go_wp2_with fail
        refine (HVV.out _ (HT.out.below HB.out)).mono ?_
        rintro e w2 ⟨rfl, hb⟩
        clear x0 x1 x2
        obtain ⟨⟨x0, x1, x2⟩, _, _⟩ := HRW.out.below hb
        have HB2 := Lib.hid (Below_then HB.out hb (Nat.le_refl _))
        clear hb
        go_wp2_with (go_at_call 20; refine (HGX.out _ (HS.out.below HB2.out)).mono ?_; rintro e w' ⟨rfl, rfl⟩)
        refine (HTKX.out _).mono ?_
        rintro e w3 ⟨rfl, hb⟩
        have HB3 := Lib.hid (Below_then HB2.out hb (Nat.le_refl _))
        clear hb
        go_wp2
        go_ret
        exact ⟨ret_bool HE.out.symm, HB3.out⟩
      | some fo =>
        have hk := kind_yes (l := l) (p := x) (by rw [ho]; rfl)
        rw [hk] at hTKx
        have HY := Lib.hid (fun h4 => Y.out HV.out HW.out (by rw [ho]; rfl) h4)
        clear ho N1 N2 N3 Y hk
        generalize textAt l x = TX at *
        generalize (getT l x).isSome = GB at *
        have HTKX := Lib.hid hTKx
        have HGX := Lib.hid hGx
        clear hTKx hGx
        go_enter Tryd.func7, Tryd.ntmps7
        go_wp2_with fail
        refine (HSV.out _ (HS.out.alloc _)).mono ?_
        rintro e w1 ⟨rfl, hb⟩
        obtain ⟨⟨x0, x1, x2⟩, _, _⟩ := Row3.new.below hb
        have HB := Lib.hid (Below_of_alloc hb)
        have HRW := Lib.hid (Row3.new.below hb)
        clear hb
        go_wp2_with fail
        refine (HVV.out _ (HT.out.below HB.out)).mono ?_
        rintro e w2 ⟨rfl, hb⟩
        clear x0 x1 x2
        replace HRW := Lib.hid (HRW.out.below hb)
        obtain ⟨⟨x0, x1, x2⟩, _, _⟩ := HRW.out
        have HB2 := Lib.hid (Below_then HB.out hb (Nat.le_refl _))
        clear hb
        go_wp2_with (go_at_call 20; refine (HGX.out _ (HS.out.below HB2.out)).mono ?_; rintro e w' ⟨rfl, rfl⟩)
        refine (HTKX.out _).mono ?_
        rintro e w3 ⟨rfl, hb⟩
        clear x0 x1 x2
        replace HRW := Lib.hid (HRW.out.below hb)
        have HB3 := Lib.hid (Below_then HB2.out hb (Nat.le_refl _))
        clear hb
        go_wp2_with fail
        go_loopw [5] (fun i wr => ∃ (k : Nat), k ≤ m.length ∧ i = .int .i64 k ∧ Hid (∀ j (h : j < m.length), j < k → (folderOf l m[j].1).isSome = true) ∧ Hid (Below w3.heap.size w3 wr)) (fun i _ => m.length - (intOf i).toNat)
        case atStart => exact ⟨0, Nat.zero_le _, rfl, fun j h h2 => by omega, Below.refl _ _⟩
        case round =>
          obtain ⟨k, hk, rfl, HH, HBW⟩ := hrel
          have HB4 := Lib.hid (Below_then HB3.out HBW.out (Nat.le_refl _))
          obtain ⟨⟨y0, y1, y2⟩, _, _⟩ := HRW.out.below HBW.out
          by_cases hlt : k < m.length
          · obtain ⟨b, o, rfl, hc0, hc1, hc2⟩ := (HT.out.below HB4.out).getV hlt
            have HN4 := Lib.hid (N4.out k hlt)
            have HST := Lib.hid (fun (h : (folderOf l m[k].1).isSome = true) => show ∀ j (h : j < m.length), j < k + 1 → (folderOf l m[j].1).isSome = true from fun j hj h2 => by
              by_cases e : j = k
              · subst e; exact h
              · exact HH.out j hj (by omega))
            have hTKq := HTK.out m[k].1
            have hGq := HG.out m[k].1
            generalize m[k] = vr at *
            obtain ⟨r0, r1, r2⟩ := vr
            simp only at *
            have HSF := Lib.hid (fun p => (HS.out.below HB4.out).below (far_below wr p))
            have z0 := far_cell y0
            have z2 := far_cell y2
            have zc := far_cell hc0
            cases hq : folderOf l r0 with
            | none =>
              have HE := Lib.hid (HN4.out hq)
              have hkq := kind_no hq
              clear hq HN4 HST
              generalize textK (bs (textAt l r0)) = K at *
              generalize textAt l r0 = TQ at *
              generalize (getT l r0).isSome = GQ at *
              have HTKQ := Lib.hid hTKq
              have HGQ := Lib.hid hGq
              clear hTKq hGq
              go_wp2
              refine wp_region_far (by kernel_rfl) (by kernel_rfl) ?_
              repeat (go_big_quiet_step ((go_at_call 20; exact far_same (HGQ.out _ (HSF.out _)))))
              refine wpQuiet_nil ?_
              intro _ hwF
              obtain ⟨pF, hwF⟩ := hwF
              subst hwF
              have HB5 := Lib.hid (Below_then HB4.out (far_below _ pF) (Nat.le_refl _))
              generalize far _ pF = wF at *
              clear z0 z2 zc y0 y1 y2 hc0 hc1 hc2
              go_wp2_with fail
              refine (HTKQ.out _).mono ?_
              rintro e w6 ⟨rfl, hb6⟩
              have HB6 := Lib.hid (Below_then HB5.out hb6 (Nat.le_refl _))
              clear hb6
              go_wp2
              go_ret
              exact ⟨ret_bool HE.out.symm, HB6.out⟩
            | some q =>
              have HN := Lib.hid (HST.out (by rw [hq]; rfl))
              have hkq := kind_yes (l := l) (p := r0) (by rw [hq]; rfl)
              rw [hkq] at hTKq
              clear hq HN4 HST hkq
              generalize textAt l r0 = TQ at *
              generalize (getT l r0).isSome = GQ at *
              have HTKQ := Lib.hid hTKq
              have HGQ := Lib.hid hGq
              clear hTKq hGq
              go_wp2
              refine wp_region_far (by kernel_rfl) (by kernel_rfl) ?_
              repeat (go_big_quiet_step ((go_at_call 20; exact far_same (HGQ.out _ (HSF.out _)))))
              refine wpQuiet_nil ?_
              intro _ hwF
              obtain ⟨pF, hwF⟩ := hwF
              subst hwF
              have HB5 := Lib.hid (Below_then HBW.out (far_below _ pF) (Nat.le_refl _))
              generalize far _ pF = wF at *
              clear z0 z2 zc y0 y1 y2 hc0 hc1 hc2
              go_wp2_with fail
              refine (HTKQ.out _).mono ?_
              rintro e w6 ⟨rfl, hb6⟩
              have HB6 := Lib.hid (Below_then HB5.out hb6 (Nat.le_refl _))
              clear hb6
              go_wp2
              go_roundw
              case rel => exact ⟨k + 1, by omega, by go_num, HN.out, HB6.out⟩
              case measure => simp [intOf]; omega
          · have HE := Lib.hid (HY.out (fun j h => HH.out j h (by omega)))
            go_wp2
            go_ret
            exact ⟨ret_bool HE.out.symm, HB4.out⟩
end Go.Proofs.YtkglfmgmmnfmbaaDoor

/- l20Line: a drawn line of an archive. Written by gen_ln.py. -/
set_option linter.unusedVariables false
namespace Go.Proofs.YtkglfmgmmnfmbaaDoor
open Go.RowKit
set_option maxHeartbeats 8000000 in
set_option maxRecDepth 100000 in
theorem l20Line_any (g p : Nat) (w : World) (hr : Rdr w g p) (hp : p ≤ 800000000) : Calls Tryd.prog 37 #[.pointer (some ⟨g, 0, none⟩)] w (Drew (ShortStr 40) 6 w g p) := by
  have HR := Lib.hid hr
  clear hr
  go_enter Tryd.func37, Tryd.ntmps37
  go_wp2_with fail
  refine (pick_any 9 _ _ _ HR.out (by omega) (by omega)).mono ?_
  rintro e w1 ⟨x, rfl, hx, ho1, hr1⟩
  have HR1 := Lib.hid hr1
  have HO1 := Lib.hid ho1
  clear hr1 ho1
  by_cases h0 : x = 0
  · have e0 : ((x : Int) == 0) = true := by rw [beq_iff_eq]; omega
    go_wp2_with fail
    refine (l20Path_any _ _ _ _ HR1.out (by omega) (by omega)).mono ?_
    rintro e w2 ⟨v2, p2, rfl, ⟨s2, rfl, hs2⟩, ho2, hr2, hp2⟩
    have HR2 := Lib.hid hr2
    have HO2 := Lib.hid (HO1.out.trans ho2)
    clear hr2 ho2
    have hq1 := str_add (x := (⟨#[119, 114, 105, 116, 101, 32]⟩ : ByteArray)) (y := s2) (by decide) (by omega)
    have hz1 : ((⟨#[119, 114, 105, 116, 101, 32]⟩ : ByteArray) ++ s2).size ≤ 15 := by
      rw [ByteArray.size_append]
      have h1 : ((⟨#[119, 114, 105, 116, 101, 32]⟩ : ByteArray)).size = 6 := rfl
      omega
    have hq2 := str_add (x := (⟨#[119, 114, 105, 116, 101, 32]⟩ : ByteArray) ++ s2) (y := (⟨#[32]⟩ : ByteArray)) (by omega) (by decide)
    have hz2 : (((⟨#[119, 114, 105, 116, 101, 32]⟩ : ByteArray) ++ s2) ++ (⟨#[32]⟩ : ByteArray)).size ≤ 16 := by
      rw [ByteArray.size_append]
      have h1 : ((⟨#[32]⟩ : ByteArray)).size = 1 := rfl
      omega
    go_wp2_with fail
    refine (pick_str 3 9 HR2.out (by omega) rfl (by omega) (by omega) (by decide)).mono ?_
    rintro e w3 ⟨i2, t2, rfl, hi2, hc2, ht2, ho3, hr3⟩
    have HR3 := Lib.hid hr3
    have HO3 := Lib.hid (HO2.out.trans ho3)
    clear hr3 ho3
    have hq3 := str_add (x := ((⟨#[119, 114, 105, 116, 101, 32]⟩ : ByteArray) ++ s2) ++ (⟨#[32]⟩ : ByteArray)) (y := t2) (by omega) (by omega)
    have hsz : ((((⟨#[119, 114, 105, 116, 101, 32]⟩ : ByteArray) ++ s2) ++ (⟨#[32]⟩ : ByteArray)) ++ t2).size ≤ 40 := by
      rw [ByteArray.size_append]; omega
    go_wp2_with fail
    go_ret
    exact ⟨_, _, rfl, ⟨_, rfl, hsz⟩, HO3.out, HR3.out, by omega⟩
  by_cases h1 : x = 1
  · have e0 : ((x : Int) == 0) = false := by rw [beq_eq_false_iff_ne]; omega
    have e1 : ((x : Int) == 1) = true := by rw [beq_iff_eq]; omega
    go_wp2_with fail
    refine (l20Path_any _ _ _ _ HR1.out (by omega) (by omega)).mono ?_
    rintro e w2 ⟨v2, p2, rfl, ⟨s2, rfl, hs2⟩, ho2, hr2, hp2⟩
    have HR2 := Lib.hid hr2
    have HO2 := Lib.hid (HO1.out.trans ho2)
    clear hr2 ho2
    have hq1 := str_add (x := (⟨#[119, 114, 105, 116, 101, 32]⟩ : ByteArray)) (y := s2) (by decide) (by omega)
    have hz1 : ((⟨#[119, 114, 105, 116, 101, 32]⟩ : ByteArray) ++ s2).size ≤ 15 := by
      rw [ByteArray.size_append]
      have h1 : ((⟨#[119, 114, 105, 116, 101, 32]⟩ : ByteArray)).size = 6 := rfl
      omega
    have hq2 := str_add (x := (⟨#[119, 114, 105, 116, 101, 32]⟩ : ByteArray) ++ s2) (y := (⟨#[32]⟩ : ByteArray)) (by omega) (by decide)
    have hz2 : (((⟨#[119, 114, 105, 116, 101, 32]⟩ : ByteArray) ++ s2) ++ (⟨#[32]⟩ : ByteArray)).size ≤ 16 := by
      rw [ByteArray.size_append]
      have h1 : ((⟨#[32]⟩ : ByteArray)).size = 1 := rfl
      omega
    go_wp2_with fail
    refine (pick_str 3 9 HR2.out (by omega) rfl (by omega) (by omega) (by decide)).mono ?_
    rintro e w3 ⟨i2, t2, rfl, hi2, hc2, ht2, ho3, hr3⟩
    have HR3 := Lib.hid hr3
    have HO3 := Lib.hid (HO2.out.trans ho3)
    clear hr3 ho3
    have hq3 := str_add (x := ((⟨#[119, 114, 105, 116, 101, 32]⟩ : ByteArray) ++ s2) ++ (⟨#[32]⟩ : ByteArray)) (y := t2) (by omega) (by omega)
    have hsz : ((((⟨#[119, 114, 105, 116, 101, 32]⟩ : ByteArray) ++ s2) ++ (⟨#[32]⟩ : ByteArray)) ++ t2).size ≤ 40 := by
      rw [ByteArray.size_append]; omega
    go_wp2_with fail
    go_ret
    exact ⟨_, _, rfl, ⟨_, rfl, hsz⟩, HO3.out, HR3.out, by omega⟩
  by_cases h2 : x = 2
  · have e0 : ((x : Int) == 0) = false := by rw [beq_eq_false_iff_ne]; omega
    have e1 : ((x : Int) == 1) = false := by rw [beq_eq_false_iff_ne]; omega
    have e2 : ((x : Int) == 2) = true := by rw [beq_iff_eq]; omega
    go_wp2_with fail
    refine (l20Path_any _ _ _ _ HR1.out (by omega) (by omega)).mono ?_
    rintro e w2 ⟨v2, p2, rfl, ⟨s2, rfl, hs2⟩, ho2, hr2, hp2⟩
    have HR2 := Lib.hid hr2
    have HO2 := Lib.hid (HO1.out.trans ho2)
    clear hr2 ho2
    have hq1 := str_add (x := (⟨#[119, 114, 105, 116, 101, 32]⟩ : ByteArray)) (y := s2) (by decide) (by omega)
    have hz1 : ((⟨#[119, 114, 105, 116, 101, 32]⟩ : ByteArray) ++ s2).size ≤ 15 := by
      rw [ByteArray.size_append]
      have h1 : ((⟨#[119, 114, 105, 116, 101, 32]⟩ : ByteArray)).size = 6 := rfl
      omega
    have hq2 := str_add (x := (⟨#[119, 114, 105, 116, 101, 32]⟩ : ByteArray) ++ s2) (y := (⟨#[32]⟩ : ByteArray)) (by omega) (by decide)
    have hz2 : (((⟨#[119, 114, 105, 116, 101, 32]⟩ : ByteArray) ++ s2) ++ (⟨#[32]⟩ : ByteArray)).size ≤ 16 := by
      rw [ByteArray.size_append]
      have h1 : ((⟨#[32]⟩ : ByteArray)).size = 1 := rfl
      omega
    go_wp2_with fail
    refine (pick_str 3 9 HR2.out (by omega) rfl (by omega) (by omega) (by decide)).mono ?_
    rintro e w3 ⟨i2, t2, rfl, hi2, hc2, ht2, ho3, hr3⟩
    have HR3 := Lib.hid hr3
    have HO3 := Lib.hid (HO2.out.trans ho3)
    clear hr3 ho3
    have hq3 := str_add (x := ((⟨#[119, 114, 105, 116, 101, 32]⟩ : ByteArray) ++ s2) ++ (⟨#[32]⟩ : ByteArray)) (y := t2) (by omega) (by omega)
    have hsz : ((((⟨#[119, 114, 105, 116, 101, 32]⟩ : ByteArray) ++ s2) ++ (⟨#[32]⟩ : ByteArray)) ++ t2).size ≤ 40 := by
      rw [ByteArray.size_append]; omega
    go_wp2_with fail
    go_ret
    exact ⟨_, _, rfl, ⟨_, rfl, hsz⟩, HO3.out, HR3.out, by omega⟩
  by_cases h3 : x = 3
  · have e0 : ((x : Int) == 0) = false := by rw [beq_eq_false_iff_ne]; omega
    have e1 : ((x : Int) == 1) = false := by rw [beq_eq_false_iff_ne]; omega
    have e2 : ((x : Int) == 2) = false := by rw [beq_eq_false_iff_ne]; omega
    have e3 : ((x : Int) == 3) = true := by rw [beq_iff_eq]; omega
    go_wp2_with fail
    refine (l20Path_any _ _ _ _ HR1.out (by omega) (by omega)).mono ?_
    rintro e w2 ⟨v2, p2, rfl, ⟨s2, rfl, hs2⟩, ho2, hr2, hp2⟩
    have HR2 := Lib.hid hr2
    have HO2 := Lib.hid (HO1.out.trans ho2)
    clear hr2 ho2
    have hq1 := str_add (x := (⟨#[100, 114, 111, 112, 32]⟩ : ByteArray)) (y := s2) (by decide) (by omega)
    have hsz : ((⟨#[100, 114, 111, 112, 32]⟩ : ByteArray) ++ s2).size ≤ 40 := by
      rw [ByteArray.size_append]
      have h1 : ((⟨#[100, 114, 111, 112, 32]⟩ : ByteArray)).size = 5 := rfl
      omega
    go_wp2_with fail
    go_ret
    exact ⟨_, _, rfl, ⟨_, rfl, hsz⟩, HO2.out, HR2.out, by omega⟩
  by_cases h4 : x = 4
  · have e0 : ((x : Int) == 0) = false := by rw [beq_eq_false_iff_ne]; omega
    have e1 : ((x : Int) == 1) = false := by rw [beq_eq_false_iff_ne]; omega
    have e2 : ((x : Int) == 2) = false := by rw [beq_eq_false_iff_ne]; omega
    have e3 : ((x : Int) == 3) = false := by rw [beq_eq_false_iff_ne]; omega
    have e4 : ((x : Int) == 4) = true := by rw [beq_iff_eq]; omega
    go_wp2_with fail
    refine (l20Word_any _ _ _ _ HR1.out (by omega) (by omega)).mono ?_
    rintro e w2 ⟨v2, p2, rfl, ⟨s2, rfl, hs2⟩, ho2, hr2, hp2⟩
    have HR2 := Lib.hid hr2
    have HO2 := Lib.hid (HO1.out.trans ho2)
    clear hr2 ho2
    have hq1 := str_add (x := (⟨#[107, 101, 101, 112, 32]⟩ : ByteArray)) (y := s2) (by decide) (by omega)
    have hsz : ((⟨#[107, 101, 101, 112, 32]⟩ : ByteArray) ++ s2).size ≤ 40 := by
      rw [ByteArray.size_append]
      have h1 : ((⟨#[107, 101, 101, 112, 32]⟩ : ByteArray)).size = 5 := rfl
      omega
    go_wp2_with fail
    go_ret
    exact ⟨_, _, rfl, ⟨_, rfl, hsz⟩, HO2.out, HR2.out, by omega⟩
  by_cases h5 : x = 5
  · have e0 : ((x : Int) == 0) = false := by rw [beq_eq_false_iff_ne]; omega
    have e1 : ((x : Int) == 1) = false := by rw [beq_eq_false_iff_ne]; omega
    have e2 : ((x : Int) == 2) = false := by rw [beq_eq_false_iff_ne]; omega
    have e3 : ((x : Int) == 3) = false := by rw [beq_eq_false_iff_ne]; omega
    have e4 : ((x : Int) == 4) = false := by rw [beq_eq_false_iff_ne]; omega
    have e5 : ((x : Int) == 5) = true := by rw [beq_iff_eq]; omega
    go_wp2_with fail
    refine (pick_str 4 9 HR1.out (by omega) rfl (by omega) (by omega) (by decide)).mono ?_
    rintro e w2 ⟨i1, t1, rfl, hi1, hc1, ht1, ho2, hr2⟩
    have HR2 := Lib.hid hr2
    have HO2 := Lib.hid (HO1.out.trans ho2)
    clear hr2 ho2
    have hq1 := str_add (x := (⟨#[98, 97, 99, 107, 32]⟩ : ByteArray)) (y := t1) (by decide) (by omega)
    have hsz : ((⟨#[98, 97, 99, 107, 32]⟩ : ByteArray) ++ t1).size ≤ 40 := by
      rw [ByteArray.size_append]
      have h1 : ((⟨#[98, 97, 99, 107, 32]⟩ : ByteArray)).size = 5 := rfl
      omega
    go_wp2_with fail
    go_ret
    exact ⟨_, _, rfl, ⟨_, rfl, hsz⟩, HO2.out, HR2.out, by omega⟩
  by_cases h6 : x = 6
  · have e0 : ((x : Int) == 0) = false := by rw [beq_eq_false_iff_ne]; omega
    have e1 : ((x : Int) == 1) = false := by rw [beq_eq_false_iff_ne]; omega
    have e2 : ((x : Int) == 2) = false := by rw [beq_eq_false_iff_ne]; omega
    have e3 : ((x : Int) == 3) = false := by rw [beq_eq_false_iff_ne]; omega
    have e4 : ((x : Int) == 4) = false := by rw [beq_eq_false_iff_ne]; omega
    have e5 : ((x : Int) == 5) = false := by rw [beq_eq_false_iff_ne]; omega
    have e6 : ((x : Int) == 6) = true := by rw [beq_iff_eq]; omega
    go_wp2_with fail
    refine (l20Path_any _ _ _ _ HR1.out (by omega) (by omega)).mono ?_
    rintro e w2 ⟨v2, p2, rfl, ⟨s2, rfl, hs2⟩, ho2, hr2, hp2⟩
    have HR2 := Lib.hid hr2
    have HO2 := Lib.hid (HO1.out.trans ho2)
    clear hr2 ho2
    have hq1 := str_add (x := (⟨#[114, 101, 97, 100, 32]⟩ : ByteArray)) (y := s2) (by decide) (by omega)
    have hsz : ((⟨#[114, 101, 97, 100, 32]⟩ : ByteArray) ++ s2).size ≤ 40 := by
      rw [ByteArray.size_append]
      have h1 : ((⟨#[114, 101, 97, 100, 32]⟩ : ByteArray)).size = 5 := rfl
      omega
    go_wp2_with fail
    go_ret
    exact ⟨_, _, rfl, ⟨_, rfl, hsz⟩, HO2.out, HR2.out, by omega⟩
  have e0 : ((x : Int) == 0) = false := by rw [beq_eq_false_iff_ne]; omega
  have e1 : ((x : Int) == 1) = false := by rw [beq_eq_false_iff_ne]; omega
  have e2 : ((x : Int) == 2) = false := by rw [beq_eq_false_iff_ne]; omega
  have e3 : ((x : Int) == 3) = false := by rw [beq_eq_false_iff_ne]; omega
  have e4 : ((x : Int) == 4) = false := by rw [beq_eq_false_iff_ne]; omega
  have e5 : ((x : Int) == 5) = false := by rw [beq_eq_false_iff_ne]; omega
  have e6 : ((x : Int) == 6) = false := by rw [beq_eq_false_iff_ne]; omega
  go_wp2_with fail
  refine (pick_str 6 9 HR1.out (by omega) rfl (by omega) (by omega) (by decide)).mono ?_
  rintro e w2 ⟨i1, t1, rfl, hi1, hc1, ht1, ho2, hr2⟩
  have HR2 := Lib.hid hr2
  have HO2 := Lib.hid (HO1.out.trans ho2)
  clear hr2 ho2
  have hsz : t1.size ≤ 40 := by omega
  go_wp2_with fail
  go_ret
  exact ⟨_, _, rfl, ⟨_, rfl, hsz⟩, HO2.out, HR2.out, by omega⟩
end Go.Proofs.YtkglfmgmmnfmbaaDoor
