/- Texts in one: Aw, Wi, Wj. -/
import Derived.Test.YtkglfmgmmnfmbaaDoorGb7
import Derived.Test.YtkglfmgmmnfmbaaDoorGa7
import Derived.Test.YtkglfmgmmnfmbaaDoorGa8
import Derived.Test.YtkglfmgmmnfmbaaDoorGc3
import Derived.Test.YtkglfmgmmnfmbaaDoorGb9
import Derived.Test.YtkglfmgmmnfmbaaDoorGb2
import Derived.Test.YtkglfmgmmnfmbaaDoorGb8
import Derived.Test.YtkglfmgmmnfmbaaDoorS3
/- ArchiveValid, walked. -/
set_option linter.unusedVariables false
namespace Go.Proofs.YtkglfmgmmnfmbaaDoor
open Go.RowKit
theorem archV_no1 {a : Ar} (h : storeV a.ps = false) : archV a = false := by unfold archV; rw [h]; rfl
theorem archV_no2 {a : Ar} (h : versV a.vs = false) : archV a = false := by unfold archV; rw [h]; simp
theorem archV_no3 {a : Ar} (h : folderOf a.ps a.op = none) : archV a = false := by unfold archV; rw [h]; simp
theorem archV_no4 {a : Ar} {k : Nat} (hk : k < a.vs.length) (h : folderOf a.ps a.vs[k].1 = none) : archV a = false := by
  have : (a.vs.all fun v => (folderOf a.ps v.1).isSome) = false := by
    rw [List.all_eq_false]; exact ⟨a.vs[k], by simp, by rw [h]; simp⟩
  unfold archV; rw [this]; simp
theorem archV_yes {a : Ar} (h1 : storeV a.ps = true) (h2 : versV a.vs = true) (h3 : (folderOf a.ps a.op).isSome = true) (h4 : ∀ k (h : k < a.vs.length), (folderOf a.ps a.vs[k].1).isSome = true) : archV a = true := by
  have : (a.vs.all fun v => (folderOf a.ps v.1).isSome) = true := by
    rw [List.all_eq_true]; intro v hv
    obtain ⟨k, hk, rfl⟩ := List.getElem_of_mem hv; exact h4 k hk
  unfold archV; rw [h1, h2, h3, this]; rfl
set_option maxHeartbeats 2000000 in
set_option maxRecDepth 100000 in
theorem iArchiveValid_any (A B : Option Addr) (c d : Nat) (l : List Pc) (m : List Vr) (x : Int) (w : World) (hs : Sl w encP 2 A l) (hl : l.length ≤ 16777216) (hf : FitP l) (ht : Sl w encV 3 B m) (hl2 : m.length ≤ 16777216) (hf2 : FitV m) (htz : TzL w) (hmx : MaxL w) :
    Calls Tryd.prog 6 #[.agg #[.slice A l.length c, .int .i64 x, .slice B m.length d]] w fun e w' => e = .returned (.bool (archV ⟨l, x, m⟩)) ∧ Below w.heap.size w w' := by
  have HS := Lib.hid hs
  have HT := Lib.hid ht
  have HTZ := Lib.hid htz
  have HMX := Lib.hid hmx
  have hSV := fun w h => iStoreValid_any A c l w h hl hf
  have hVV := fun w h => iVersionsValid_any B d m w h hl2 hf2
  have N1 := Lib.hid (@archV_no1 ⟨l, x, m⟩)
  have N2 := Lib.hid (@archV_no2 ⟨l, x, m⟩)
  have N3 := Lib.hid (@archV_no3 ⟨l, x, m⟩)
  have N4 := Lib.hid (fun k (hk : k < m.length) (h : folderOf l m[k].1 = none) => @archV_no4 ⟨l, x, m⟩ k hk h)
  have Y := Lib.hid (fun h1 h2 h3 (h4 : ∀ k (h : k < m.length), (folderOf l m[k].1).isSome = true) => @archV_yes ⟨l, x, m⟩ h1 h2 h3 h4)
  clear hs ht htz hmx
  generalize hR : archV ⟨l, x, m⟩ = R at *
  clear hR
  cases hv : storeV l
  · have HE := Lib.hid (N1.out hv)
    rw [hv] at hSV
    have HSV := Lib.hid hSV
    clear hSV hVV hv N1 N2 N3 N4 Y
    go_enter Tryd.func6, Tryd.ntmps6
    go_wp2_with fail
    refine (HSV.out _ (HS.out.alloc _)).mono ?_
    rintro e w1 ⟨rfl, hb⟩
    have HB := Lib.hid (Below_of_alloc hb)
    clear hb
    go_wp2
    go_ret
    exact ⟨ret_bool HE.out.symm, HB.out⟩
  · rw [hv] at hSV
    have HSV := Lib.hid hSV
    have HFO := Lib.hid (fun p w h h2 h3 => ifolderOf_any A c l p w h hv h2 h3)
    have HV := Lib.hid hv
    clear hSV hv
    cases hw : versV m
    · have HE := Lib.hid (N2.out hw)
      rw [hw] at hVV
      have HVV := Lib.hid hVV
      clear hVV hw N1 N2 N3 N4 Y
      go_enter Tryd.func6, Tryd.ntmps6
      go_wp2_with fail
      refine (HSV.out _ (HS.out.alloc _)).mono ?_
      rintro e w1 ⟨rfl, hb⟩
      obtain ⟨⟨x0, x1, x2⟩, _, _⟩ := Row3.new.below hb
      have HB := Lib.hid (Below_of_alloc hb)
      clear hb
      go_wp2_with fail
      refine (HVV.out _ (HT.out.below HB.out)).mono ?_
      rintro e w2 ⟨rfl, hb⟩
      have HB2 := Lib.hid (Below_then HB.out hb (Nat.le_refl _))
      clear hb
      go_wp2
      go_ret
      exact ⟨ret_bool HE.out.symm, HB2.out⟩
    · rw [hw] at hVV
      have HVV := Lib.hid hVV
      have HW := Lib.hid hw
      clear hVV hw
      unfold RfRes at HFO
      cases ho : folderOf l x with
      | none =>
        have HE := Lib.hid (N3.out ho)
        have HFX := HFO.out x
        rw [ho] at HFX
        have HFX := Lib.hid HFX
        clear ho N1 N2 N3 N4 Y
        go_enter Tryd.func6, Tryd.ntmps6
        go_wp2_with fail
        refine (HSV.out _ (HS.out.alloc _)).mono ?_
        rintro e w1 ⟨rfl, hb⟩
        obtain ⟨⟨x0, x1, x2⟩, _, _⟩ := Row3.new.below hb
        have HB := Lib.hid (Below_of_alloc hb)
        have HRW := Lib.hid (Row3.new.below hb)
        clear hb
        go_wp2_with fail
        refine (HVV.out _ (HT.out.below HB.out)).mono ?_
        rintro e w2 ⟨rfl, hb⟩
        clear x0 x1 x2
        obtain ⟨⟨x0, x1, x2⟩, _, _⟩ := HRW.out.below hb
        have HB2 := Lib.hid (Below_then HB.out hb (Nat.le_refl _))
        clear hb
        go_wp2_with fail
        refine (HFX.out _ (HS.out.below HB2.out) (HTZ.out.below HB2.out) (HMX.out.below HB2.out)).mono ?_
        rintro e w3 ⟨v, rfl, hown, hb⟩
        have HB3 := Lib.hid (Below_then HB2.out hb (Nat.le_refl _))
        clear hb hown
        go_wp2
        go_ret
        exact ⟨ret_bool HE.out.symm, HB3.out⟩
      | some fo =>
        have HFX := HFO.out x
        rw [ho] at HFX
        have HFX := Lib.hid HFX
        have HY := Lib.hid (fun h4 => Y.out HV.out HW.out (by rw [ho]; rfl) h4)
        clear ho N1 N2 N3 Y
        go_enter Tryd.func6, Tryd.ntmps6
        go_wp2_with fail
        refine (HSV.out _ (HS.out.alloc _)).mono ?_
        rintro e w1 ⟨rfl, hb⟩
        obtain ⟨⟨x0, x1, x2⟩, _, _⟩ := Row3.new.below hb
        have HB := Lib.hid (Below_of_alloc hb)
        have HRW := Lib.hid (Row3.new.below hb)
        clear hb
        go_wp2_with fail
        refine (HVV.out _ (HT.out.below HB.out)).mono ?_
        rintro e w2 ⟨rfl, hb⟩
        clear x0 x1 x2
        replace HRW := Lib.hid (HRW.out.below hb)
        obtain ⟨⟨x0, x1, x2⟩, _, _⟩ := HRW.out
        have HB2 := Lib.hid (Below_then HB.out hb (Nat.le_refl _))
        clear hb
        go_wp2_with fail
        refine (HFX.out _ (HS.out.below HB2.out) (HTZ.out.below HB2.out) (HMX.out.below HB2.out)).mono ?_
        rintro e w3 ⟨v, rfl, hown, hb⟩
        clear x0 x1 x2
        replace HRW := Lib.hid (HRW.out.below hb)
        have HB3 := Lib.hid (Below_then HB2.out hb (Nat.le_refl _))
        obtain ⟨⟨x0, x1, x2⟩, _, _⟩ := HRW.out
        obtain ⟨XF, dF, rfl, _, _, _⟩ := hown.sl
        clear hb hown
        go_wp2_with fail
        clear x0 x1 x2
        go_loopw [32] (fun i wr => ∃ (k : Nat), k ≤ m.length ∧ i = .int .i64 k ∧ Hid (∀ j (h : j < m.length), j < k → (folderOf l m[j].1).isSome = true) ∧ Hid (Below w3.heap.size w3 wr)) (fun i _ => m.length - (intOf i).toNat)
        case atStart => exact ⟨0, Nat.zero_le _, rfl, fun j h h2 => by omega, Below.refl _ _⟩
        case round =>
          obtain ⟨k, hk, rfl, HH, HBW⟩ := hrel
          have HB4 := Lib.hid (Below_then HB3.out HBW.out (Nat.le_refl _))
          by_cases hlt : k < m.length
          · obtain ⟨b, o, rfl, hc0, hc1, hc2⟩ := (HT.out.below HB4.out).getV hlt
            have HR5 := HRW.out.below HBW.out
            have HN4 := Lib.hid (N4.out k hlt)
            have HST := Lib.hid (fun (h : (folderOf l m[k].1).isSome = true) => show ∀ j (h : j < m.length), j < k + 1 → (folderOf l m[j].1).isSome = true from fun j hj h2 => by
              by_cases e : j = k
              · subst e; exact h
              · exact HH.out j hj (by omega))
            have hfx := HFO.out m[k].1
            generalize m[k] = vr at *
            obtain ⟨r0, r1, r2⟩ := vr
            simp only at *
            obtain ⟨⟨y0, y1, y2⟩, _, _⟩ := HR5.below ((Below.refl wr.heap.size wr).alloc (Nat.le_refl _) (.cells #[.int .i64 r0, .int .i64 r1, .string r2] 45))
            have HB5 := Lib.hid (HB4.out.alloc HB4.out.size (.cells #[.int .i64 r0, .int .i64 r1, .string r2] 45))
            cases hq : folderOf l r0 with
            | none =>
              have HE := Lib.hid (HN4.out hq)
              rw [hq] at hfx
              have HFQ := Lib.hid hfx
              clear hfx hq HN4 HST HR5
              go_wp2_with fail
              refine (HFQ.out _ (HS.out.below HB5.out) (HTZ.out.below HB5.out) (HMX.out.below HB5.out)).mono ?_
              rintro e w6 ⟨v6, rfl, hown6, hb6⟩
              have HB6 := Lib.hid (Below_then HB5.out hb6 (Nat.le_refl _))
              clear hb6 hown6
              go_wp2
              go_ret
              exact ⟨ret_bool HE.out.symm, HB6.out⟩
            | some q =>
              have HN := Lib.hid (HST.out (by rw [hq]; rfl))
              rw [hq] at hfx
              have HFQ := Lib.hid hfx
              clear hfx hq HN4 HST HR5
              go_wp2_with fail
              refine (HFQ.out _ (HS.out.below HB5.out) (HTZ.out.below HB5.out) (HMX.out.below HB5.out)).mono ?_
              rintro e w6 ⟨v6, rfl, hown6, hb6⟩
              have HB6 := Lib.hid (Below_then HBW.out (Below_of_alloc hb6) (Nat.le_refl _))
              obtain ⟨XQ, dQ, rfl, _, _, _⟩ := hown6.sl
              clear hb6 hown6
              go_wp2
              go_roundw
              case rel => exact ⟨k + 1, by omega, by go_num, HN.out, HB6.out⟩
              case measure => simp [intOf]; omega
          · have HE := Lib.hid (HY.out (fun j h => HH.out j h (by omega)))
            go_wp2
            go_ret
            exact ⟨ret_bool HE.out.symm, HB4.out⟩
end Go.Proofs.YtkglfmgmmnfmbaaDoor

/- The folders on the way: foldersToWrite of the program, walked. -/
set_option linter.unusedVariables false
namespace Go.Proofs.YtkglfmgmmnfmbaaDoor
open Go.RowKit
end Go.Proofs.YtkglfmgmmnfmbaaDoor

/- The way back up: putFolders of the program, walked. -/
set_option linter.unusedVariables false
namespace Go.Proofs.YtkglfmgmmnfmbaaDoor
open Go.RowKit
def PfRes (base : Nat) (r : Option (List Pc × Int)) (w : World) (e : Ending) (w' : World) : Prop :=
  ∃ v, e = .returned (.tuple #[v, .int .i64 ((r.map (·.2)).getD (-1)), .bool r.isSome]) ∧ Own w' base 57 2 encP v ((r.map (·.1)).getD []) ∧ Below w.heap.size w w'
theorem PfRes.no {base : Nat} {r : Option (List Pc × Int)} {w w' : World} (h : r = none) (hb : Below w.heap.size w w') : PfRes base r w (.returned (.tuple #[.slice none 0 0, .int .i64 (-1), .bool false])) w' := by
  subst h; exact ⟨_, rfl, Own.nil, hb⟩
theorem PfRes.yes {base : Nat} {r : Option (List Pc × Int)} {w w' : World} {v : Value} {l : List Pc} {p : Int} (h : r = some (l, p)) (ho : Own w' base 57 2 encP v l) (hb : Below w.heap.size w w') : PfRes base r w (.returned (.tuple #[v, .int .i64 p, .bool true])) w' := by
  subst h; exact ⟨_, rfl, ho, hb⟩
end Go.Proofs.YtkglfmgmmnfmbaaDoor
