/- Written by merge.py: Ax, L8a, Ki, L1, Open5, EArchiveValid, Door, Tz. -/
import Derived.Test.YtbpngpcjjinneaaDoorRows
import Derived.Handed
import Derived.HandedShaped
import Derived.Lay
import Derived.LaidMore
import Derived.SevenTiedAt
import Derived.Stop.Joined
import Derived.Shelf.Vars
import Derived.LaidSub
import Derived.OpenShut
import Derived.Test.YtbpngpcjjinneaaDoorMgExactArchiveValid4
/- ArchiveValid of the reference, walked. -/
set_option linter.unusedVariables false
namespace Go.Proofs.YtbpngpcjjinneaaDoor
open Go.RowKit
def textAt (l : List Pc) (p : Int) : ByteArray := (getT l p).getD ⟨#[]⟩
theorem kind_at (l : List Pc) (p : Int) : (textK (bs (textAt l p)) = 2) = ((folderOf l p).isSome = true) := by
  unfold textAt folderOf
  cases getT l p with
  | none => simp only [Option.getD_none, Option.bind_none]; decide
  | some t => rw [Option.getD_some, Option.bind_some]; exact propext textK_two
theorem textAt_size {l : List Pc} (hv : storeV l = true) (p : Int) : (textAt l p).size ≤ 1048576 := by
  unfold textAt
  cases hg : getT l p with
  | none => simp [ByteArray.size]
  | some t => have := textV_size (getT_valid hv hg).1; simp only [Option.getD_some]; have h2 : t.size ≤ 60 := this; omega
theorem kind_no {l : List Pc} {p : Int} (h : folderOf l p = none) : textK (bs (textAt l p)) ≠ 2 := by
  rw [Ne, kind_at, h]; simp
theorem kind_yes {l : List Pc} {p : Int} (h : (folderOf l p).isSome = true) : textK (bs (textAt l p)) = 2 := by
  rw [kind_at]; exact h
set_option maxHeartbeats 2000000 in
set_option maxRecDepth 100000 in
theorem sArchiveValid_any (A B : Option Addr) (c d : Nat) (l : List Pc) (m : List Vr) (x : Int) (w : World) (hs : Sl w encP 2 A l) (hl : l.length ≤ 16777216) (hf : FitP l) (ht : Sl w encV 3 B m) (hl2 : m.length ≤ 16777216) (hf2 : FitV m) :
    Calls Tryd.prog 32 #[.agg #[.slice A l.length c, .int .i64 x, .slice B m.length d]] w fun e w' => e = .returned (.bool (archV ⟨l, x, m⟩)) ∧ Below w.heap.size w w' := by
  have HS := Lib.hid hs
  have HT := Lib.hid ht
  have hSV := fun w h => sStoreValid_any A c l w h hl hf
  have hVV : ∀ w, Sl w encV 3 B m → Calls Tryd.prog 62 #[.slice B m.length d] w fun e w' => e = .returned (.bool (versV m)) ∧ Below w.heap.size w w' := fun w h => by
    first
      | exact sVersionsValid_any B d m w h hl2 hf2
      | exact (sVersionsValid_any B d m w h hl2 hf2).mono fun _ _ ⟨h1, h2⟩ => ⟨h1, h2 ▸ Below.refl _ _⟩
  have N1 := Lib.hid (@archV_no1 ⟨l, x, m⟩)
  have N2 := Lib.hid (@archV_no2 ⟨l, x, m⟩)
  have N3 := Lib.hid (@archV_no3 ⟨l, x, m⟩)
  have N4 := Lib.hid (fun k (hk : k < m.length) (h : folderOf l m[k].1 = none) => @archV_no4 ⟨l, x, m⟩ k hk h)
  have Y := Lib.hid (fun h1 h2 h3 (h4 : ∀ k (h : k < m.length), (folderOf l m[k].1).isSome = true) => @archV_yes ⟨l, x, m⟩ h1 h2 h3 h4)
  have HG := Lib.hid (fun p w h => (sl4Get_any A c l p w h hl).mono fun e w' ⟨h1, h2⟩ => (⟨h1, h2⟩ : e = Ending.returned (.tuple #[.string (textAt l p), .bool (getT l p).isSome]) ∧ w = w'))
  clear hs ht
  generalize hR : archV ⟨l, x, m⟩ = R at *
  clear hR
  cases hv : storeV l
  · have HE := Lib.hid (N1.out hv)
    rw [hv] at hSV
    have HSV := Lib.hid hSV
    clear hSV hVV hv N1 N2 N3 N4 Y
    go_enter Tryd.func32, Tryd.ntmps32
    go_wp2_with fail
    refine (HSV.out _ (HS.out.alloc _)).mono ?_
    rintro e w1 ⟨rfl, hb⟩
    have HB := Lib.hid (Below_of_alloc hb)
    clear hb
    go_wp2
    go_ret
    exact ⟨ret_bool HE.out.symm, HB.out⟩
  · rw [hv] at hSV
    have HSV := Lib.hid hSV
    have HTK := Lib.hid (fun p w => sTextKind_any (textAt l p) w (textAt_size hv p))
    have HV := Lib.hid hv
    clear hSV hv
    cases hw : versV m
    · have HE := Lib.hid (N2.out hw)
      rw [hw] at hVV
      have HVV := Lib.hid hVV
      clear hVV hw N1 N2 N3 N4 Y
      go_enter Tryd.func32, Tryd.ntmps32
      go_wp2_with fail
      refine (HSV.out _ (HS.out.alloc _)).mono ?_
      rintro e w1 ⟨rfl, hb⟩
      obtain ⟨⟨x0, x1, x2⟩, _, _⟩ := Row3.new.below hb
      have HB := Lib.hid (Below_of_alloc hb)
      clear hb
      go_wp2_with fail
      refine (HVV.out _ (HT.out.below HB.out)).mono ?_
      rintro e w2 ⟨rfl, hb⟩
      have HB2 := Lib.hid (Below_then HB.out hb (Nat.le_refl _))
      clear hb
      go_wp2
      go_ret
      exact ⟨ret_bool HE.out.symm, HB2.out⟩
    · rw [hw] at hVV
      have HVV := Lib.hid hVV
      have HW := Lib.hid hw
      clear hVV hw
      have hTKx := HTK.out x
      have hGx := HG.out x
      cases ho : folderOf l x with
      | none =>
        have HE := Lib.hid (N3.out ho)
        have hk := kind_no ho
        clear ho N1 N2 N3 N4 Y
        generalize textK (bs (textAt l x)) = K at *
        generalize textAt l x = TX at *
        generalize (getT l x).isSome = GB at *
        have HTKX := Lib.hid hTKx
        have HGX := Lib.hid hGx
        clear hTKx hGx
        go_enter Tryd.func32, Tryd.ntmps32
        go_wp2_with fail
        refine (HSV.out _ (HS.out.alloc _)).mono ?_
        rintro e w1 ⟨rfl, hb⟩
        obtain ⟨⟨x0, x1, x2⟩, _, _⟩ := Row3.new.below hb
        have HB := Lib.hid (Below_of_alloc hb)
        have HRW := Lib.hid (Row3.new.below hb)
        clear hb
        go_wp2_with fail
        refine (HVV.out _ (HT.out.below HB.out)).mono ?_
        rintro e w2 ⟨rfl, hb⟩
        clear x0 x1 x2
        obtain ⟨⟨x0, x1, x2⟩, _, _⟩ := HRW.out.below hb
        have HB2 := Lib.hid (Below_then HB.out hb (Nat.le_refl _))
        clear hb
        go_wp2_with (go_at_call 63; refine (HGX.out _ (HS.out.below HB2.out)).mono ?_; rintro e w' ⟨rfl, rfl⟩)
        refine (HTKX.out _).mono ?_
        rintro e w3 ⟨rfl, hb⟩
        have HB3 := Lib.hid (Below_then HB2.out hb (Nat.le_refl _))
        clear hb
        go_wp2
        go_ret
        exact ⟨ret_bool HE.out.symm, HB3.out⟩
      | some fo =>
        have hk := kind_yes (l := l) (p := x) (by rw [ho]; rfl)
        rw [hk] at hTKx
        have HY := Lib.hid (fun h4 => Y.out HV.out HW.out (by rw [ho]; rfl) h4)
        clear ho N1 N2 N3 Y hk
        generalize textAt l x = TX at *
        generalize (getT l x).isSome = GB at *
        have HTKX := Lib.hid hTKx
        have HGX := Lib.hid hGx
        clear hTKx hGx
        go_enter Tryd.func32, Tryd.ntmps32
        go_wp2_with fail
        refine (HSV.out _ (HS.out.alloc _)).mono ?_
        rintro e w1 ⟨rfl, hb⟩
        obtain ⟨⟨x0, x1, x2⟩, _, _⟩ := Row3.new.below hb
        have HB := Lib.hid (Below_of_alloc hb)
        have HRW := Lib.hid (Row3.new.below hb)
        clear hb
        go_wp2_with fail
        refine (HVV.out _ (HT.out.below HB.out)).mono ?_
        rintro e w2 ⟨rfl, hb⟩
        clear x0 x1 x2
        replace HRW := Lib.hid (HRW.out.below hb)
        obtain ⟨⟨x0, x1, x2⟩, _, _⟩ := HRW.out
        have HB2 := Lib.hid (Below_then HB.out hb (Nat.le_refl _))
        clear hb
        go_wp2_with (go_at_call 63; refine (HGX.out _ (HS.out.below HB2.out)).mono ?_; rintro e w' ⟨rfl, rfl⟩)
        refine (HTKX.out _).mono ?_
        rintro e w3 ⟨rfl, hb⟩
        clear x0 x1 x2
        replace HRW := Lib.hid (HRW.out.below hb)
        have HB3 := Lib.hid (Below_then HB2.out hb (Nat.le_refl _))
        clear hb
        go_wp2_with fail
        go_loopw [5] (fun i wr => ∃ (k : Nat), k ≤ m.length ∧ i = .int .i64 k ∧ Hid (∀ j (h : j < m.length), j < k → (folderOf l m[j].1).isSome = true) ∧ Hid (Below w3.heap.size w3 wr)) (fun i _ => m.length - (intOf i).toNat)
        case atStart => exact ⟨0, Nat.zero_le _, rfl, fun j h h2 => by omega, Below.refl _ _⟩
        case round =>
          obtain ⟨k, hk, rfl, HH, HBW⟩ := hrel
          have HB4 := Lib.hid (Below_then HB3.out HBW.out (Nat.le_refl _))
          obtain ⟨⟨y0, y1, y2⟩, _, _⟩ := HRW.out.below HBW.out
          by_cases hlt : k < m.length
          · obtain ⟨b, o, rfl, hc0, hc1, hc2⟩ := (HT.out.below HB4.out).getV hlt
            have HN4 := Lib.hid (N4.out k hlt)
            have HST := Lib.hid (fun (h : (folderOf l m[k].1).isSome = true) => show ∀ j (h : j < m.length), j < k + 1 → (folderOf l m[j].1).isSome = true from fun j hj h2 => by
              by_cases e : j = k
              · subst e; exact h
              · exact HH.out j hj (by omega))
            have hTKq := HTK.out m[k].1
            have hGq := HG.out m[k].1
            generalize m[k] = vr at *
            obtain ⟨r0, r1, r2⟩ := vr
            simp only at *
            have HSF := Lib.hid (fun p => (HS.out.below HB4.out).below (far_below wr p))
            have z0 := far_cell y0
            have z2 := far_cell y2
            have zc := far_cell hc0
            cases hq : folderOf l r0 with
            | none =>
              have HE := Lib.hid (HN4.out hq)
              have hkq := kind_no hq
              clear hq HN4 HST
              generalize textK (bs (textAt l r0)) = K at *
              generalize textAt l r0 = TQ at *
              generalize (getT l r0).isSome = GQ at *
              have HTKQ := Lib.hid hTKq
              have HGQ := Lib.hid hGq
              clear hTKq hGq
              go_wp2
              refine wp_region_far (by kernel_rfl) (by kernel_rfl) ?_
              repeat (go_big_quiet_step ((go_at_call 63; exact far_same (HGQ.out _ (HSF.out _)))))
              refine wpQuiet_nil ?_
              intro _ hwF
              obtain ⟨pF, hwF⟩ := hwF
              subst hwF
              have HB5 := Lib.hid (Below_then HB4.out (far_below _ pF) (Nat.le_refl _))
              generalize far _ pF = wF at *
              clear z0 z2 zc y0 y1 y2 hc0 hc1 hc2
              go_wp2_with fail
              refine (HTKQ.out _).mono ?_
              rintro e w6 ⟨rfl, hb6⟩
              have HB6 := Lib.hid (Below_then HB5.out hb6 (Nat.le_refl _))
              clear hb6
              go_wp2
              go_ret
              exact ⟨ret_bool HE.out.symm, HB6.out⟩
            | some q =>
              have HN := Lib.hid (HST.out (by rw [hq]; rfl))
              have hkq := kind_yes (l := l) (p := r0) (by rw [hq]; rfl)
              rw [hkq] at hTKq
              clear hq HN4 HST hkq
              generalize textAt l r0 = TQ at *
              generalize (getT l r0).isSome = GQ at *
              have HTKQ := Lib.hid hTKq
              have HGQ := Lib.hid hGq
              clear hTKq hGq
              go_wp2
              refine wp_region_far (by kernel_rfl) (by kernel_rfl) ?_
              repeat (go_big_quiet_step ((go_at_call 63; exact far_same (HGQ.out _ (HSF.out _)))))
              refine wpQuiet_nil ?_
              intro _ hwF
              obtain ⟨pF, hwF⟩ := hwF
              subst hwF
              have HB5 := Lib.hid (Below_then HBW.out (far_below _ pF) (Nat.le_refl _))
              generalize far _ pF = wF at *
              clear z0 z2 zc y0 y1 y2 hc0 hc1 hc2
              go_wp2_with fail
              refine (HTKQ.out _).mono ?_
              rintro e w6 ⟨rfl, hb6⟩
              have HB6 := Lib.hid (Below_then HB5.out hb6 (Nat.le_refl _))
              clear hb6
              go_wp2
              go_roundw
              case rel => exact ⟨k + 1, by omega, by go_num, HN.out, HB6.out⟩
              case measure => simp [intOf]; omega
          · have HE := Lib.hid (HY.out (fun j h => HH.out j h (by omega)))
            go_wp2
            go_ret
            exact ⟨ret_bool HE.out.symm, HB4.out⟩
end Go.Proofs.YtbpngpcjjinneaaDoor

/- Copies of slices of numbers. -/
set_option linter.unusedVariables false
namespace Go.Proofs.YtbpngpcjjinneaaDoor
open Go.RowKit

end Go.Proofs.YtbpngpcjjinneaaDoor

/- Slices of numbers and of strings, as a law copies, measures, compares and marks them: in one shape with slices of structs. -/
set_option linter.unusedVariables false
namespace Go.Proofs.YtbpngpcjjinneaaDoor
open Go.RowKit

theorem str_to (A : Option Addr) (c : Nat) (l : List ByteArray) (w : World) (hs : Sl w encS 1 A l) (hl : l.length ≤ 16777216) :
    Calls Tryd.prog 26 #[.slice A l.length c] w (OwnRes 9 1 encS l w) := toStringS_any A c l w hs hl
def StrFit (l : List ByteArray) : Prop := ∀ s ∈ l, s.size ≤ 1048576
theorem str_sz (A : Option Addr) (c : Nat) (l : List ByteArray) (left : Int) (w : World) (hs : Sl w encS 1 A l) (hl : l.length ≤ maxLen) (hm : ∀ s ∈ l, s.size ≤ maxLen) (h0 : 0 ≤ left) (h1 : left ≤ 1048576) :
    Calls Tryd.prog 24 #[.slice A l.length c, .int .i64 left] w fun e w' => ∃ r : Int, e = .returned (.int .i64 r) ∧ r ≤ 1048576 ∧ (0 ≤ r → l.length ≤ 1048576 ∧ StrFit l) ∧ Below w.heap.size w w' :=
  (szStringS_any A c l left w hs hl hm h0 h1).mono fun _ _ ⟨r, h, h2, h3, e⟩ => ⟨r, h, h2, h3, e ▸ Below.refl _ _⟩
theorem str_eq2 (A B : Option Addr) (c d : Nat) (l : List ByteArray) (w : World) (ha : Sl w encS 1 A l) (hb : Sl w encS 1 B l) (hl : l.length ≤ 16777216) :
    Calls Tryd.prog 28 #[.slice A l.length c, .slice B l.length d] w fun e w' => e = .returned (.bool true) ∧ Below w.heap.size w w' :=
  (l_eqStringS_same A B c d l w ha hb hl).mono fun _ _ ⟨h, hd⟩ => ⟨h, hd.below⟩
/-! ### marks of strings -/
def markStrL (k n : Nat) : List ByteArray := (List.range n).map fun j => mk (markT (k + j))
theorem markStrL_len (k n : Nat) : (markStrL k n).length = n := by simp [markStrL]
theorem markStrL_succ (k n : Nat) : markStrL k (n + 1) = markStrL k n ++ [mk (markT (k + n))] := by simp [markStrL, List.range_succ]
theorem markStrL_at {k n j : Nat} (h : j < n) : (markStrL k n)[j]'(by rw [markStrL_len]; exact h) = mk (markT (k + j)) := by simp [markStrL]
set_option maxHeartbeats 4000000 in
set_option maxRecDepth 100000 in
theorem markStringS_any (base : Nat) (v : Value) (l : List ByteArray) (k : Nat) (w : World) (h : Own w base 9 1 encS v l) (hl : l.length ≤ 16777216) (hk : k ≤ 100000000) :
    Calls Tryd.prog 29 #[v, .int .i64 k] w (Marked 9 1 encS base v (markStrL k l.length) (k + l.length) w) := by
  by_cases h0 : 0 < l.length
  · obtain ⟨g, cap, rfl, hg, hlc, hcm, hf⟩ := h.row h0
    have HF := Lib.hid hf
    have hcm' := hcm
    unfold maxLen at hcm'
    clear hf h
    go_enter Tryd.func29, Tryd.ntmps29
    go_wp2
    go_loopw [1, 5] (fun sk si wr => ∃ (j K : Nat), j ≤ l.length ∧ si = .int .i64 (j : Int) ∧ sk = .int .i64 (K : Int) ∧ Hid (K = k + j) ∧ K ≤ 300000000 ∧ Filled wr g (cap * 1) 9 (flat encS (markStrL k j)) ∧ Grew (.slice (some ⟨g, 0, none⟩) l.length cap) w wr) (fun _ si _ => l.length - (intOf si).toNat)
    case atStart => exact ⟨0, k, Nat.zero_le _, rfl, rfl, rfl, by omega, HF.out, Grew.refl _ _⟩
    case round =>
      obtain ⟨j, K, hj, rfl, rfl, hK, hKb, hf, hg2⟩ := hrel
      by_cases hlt : j < l.length
      · have hlen : (flat encS (markStrL k j)).length = j := by rw [flatS_len, markStrL_len]
        have HF0 := Lib.hid hf
        have HG0 := Lib.hid hg2
        have HLN := Lib.hid hlen
        clear hlen hf hg2
        go_wp2_with fail
        refine (markText_any K _ (by omega)).mono ?_
        rintro e w2 ⟨rfl, hb2⟩
        have HF2 := Lib.hid (HF0.out.below hb2)
        have HG2 := Lib.hid (HG0.out.trans (Grew.below hb2))
        clear hb2
        obtain ⟨u, hu⟩ := HF2.out.cell (j := j) (by omega)
        have hfr := HF2.out.free j
        have hst := HF2.out.store (.string (mk (markT K))) (by rw [HLN.out]; omega)
        rw [HLN.out, show flat encS (markStrL k j) ++ [Value.string (mk (markT K))] = flat encS (markStrL k (j + 1)) from by rw [markStrL_succ, flat_snoc, ← hK.out]; rfl] at hst
        have HST := Lib.hid hst
        clear hst
        go_wp2
        go_roundw
        case rel => exact ⟨j + 1, K + 1, by omega, by go_num, by go_num, by show _ = _; rw [hK.out]; omega, by have := hK.out; omega, HST.out, HG2.out.set rfl _⟩
        case measure => simp [intOf]; omega
      · have hjl : j = l.length := by omega
        subst hjl
        have HG2 := Lib.hid hg2
        have HF2 := Lib.hid hf
        clear hg2 hf
        go_wp2
        go_ret
        have ho := HF2.out.ownc (base := base) (fun _ => rfl) hg hcm (by rw [markStrL_len]; exact hlc)
        rw [markStrL_len] at ho
        exact ⟨ret_int (by rw [hK.out]), ho, HG2.out⟩
  · have hz : l.length = 0 := by omega
    obtain ⟨A, c, hv, _, _, _⟩ := h.sl
    subst hv
    rw [hz] at h ⊢
    have H := Lib.hid h
    clear h
    go_enter Tryd.func29, Tryd.ntmps29
    go_wp2
    go_loopw [1, 5] (fun sk si wr => si = .int .i64 0 ∧ sk = .int .i64 (k : Int) ∧ w = wr) (fun _ _ _ => 0)
    case atStart => exact ⟨rfl, rfl, rfl⟩
    case round =>
      obtain ⟨rfl, rfl, rfl⟩ := hrel
      go_wp2
      go_ret
      exact ⟨rfl, H.out.empty hz (by rw [markStrL_len]), Grew.refl _ _⟩
end Go.Proofs.YtbpngpcjjinneaaDoor

/- Laws' walks: FnExactSpotOf, FnExactFoldName, FnFoldName. -/
set_option linter.unusedVariables false
namespace Go.Proofs.YtbpngpcjjinneaaDoor
open Go.RowKit
attribute [local go_sem] mk_toList

/-- A law's end: true, and nothing that was there has turned. -/
def LawOk (w : World) (e : Ending) (w' : World) : Prop := e = .returned (.bool true) ∧ Below w.heap.size w w'

set_option maxHeartbeats 2000000 in
set_option maxRecDepth 100000 in
theorem alive_any (w : World) : Calls Tryd.prog 14 #[] w fun e w' => e = .returned (.bool true) ∧ w = w' := by
  have h1 : wordV (bs ⟨#[97, 49]⟩) = true := by decide
  have h2 : wordV (bs ⟨#[49, 97]⟩) = false := by decide
  go_enter Tryd.func14, Tryd.ntmps14
  go_wp2_with (go_at_call 43; refine (iWordValid_any _ _ (by decide)).mono ?_; rintro e w' ⟨rfl, rfl⟩)
  go_ret
  exact ⟨rfl, rfl⟩

/-! ### spots -/
def spotOf (seed many : Int) : Int := if pv seed && inI many 1 16 then prPair seed 17 % many else -1
/-! ### folded names -/
theorem foldName_facts (s : Bs) : foldName (foldName s) = foldName s ∧ (foldName s ≠ [] → (foldName s).length = s.length) := by
  by_cases h : 1 ≤ s.length ∧ s.length ≤ 8 ∧ s.all fineC = true
  · have e : foldName s = s.map foldC := by unfold foldName; rw [if_pos h]
    have hff : ∀ c, fineC c = true → foldC (foldC c) = foldC c ∧ fineC (foldC c) = true := by
      intro c hc
      have h2 : foldC (foldC c) = foldC c := by
        refine foldC_same ?_
        unfold fineC smallC digitC inI at hc
        simp at hc; omega
      refine ⟨h2, ?_⟩
      unfold fineC at hc ⊢
      rw [h2]; exact hc
    have hall := List.all_eq_true.1 h.2.2
    refine ⟨?_, fun _ => by rw [e]; simp⟩
    rw [e]
    have h3 : 1 ≤ (s.map foldC).length ∧ (s.map foldC).length ≤ 8 ∧ (s.map foldC).all fineC = true := by
      refine ⟨by simpa using h.1, by simpa using h.2.1, ?_⟩
      rw [List.all_eq_true]; intro c hc
      obtain ⟨d, hd, rfl⟩ := List.mem_map.1 hc
      exact (hff d (hall d hd)).2
    have e2 : foldName (s.map foldC) = (s.map foldC).map foldC := by unfold foldName; rw [if_pos h3]
    rw [e2, List.map_map]
    refine List.map_congr_left fun c hc => ?_
    exact (hff c (hall c hc)).1
  · have e : foldName s = [] := by unfold foldName; rw [if_neg h]
    rw [e]
    exact ⟨rfl, fun h => absurd rfl h⟩

theorem foldName_le (s : Bs) : (foldName s).length ≤ 8 := by
  unfold foldName; split
  · rename_i h; simpa using h.2.1
  · simp

end Go.Proofs.YtbpngpcjjinneaaDoor

/- An archive that came in, opened. -/
set_option linter.unusedVariables false
namespace Go.Proofs.YtbpngpcjjinneaaDoor
open Go.ChangeShapes Go.WideShapes Go.ChangeAt Go.RowKit
section
variable {H : Type} {enc : TypeId × Value → H} {W : World} {d : DataW H} {p : List MemPlace}
def ArchiveIn (W : World) (v : Value) : Prop := ∃ (A : Option Addr) (c : Nat) (l : List Pc) (x : Int) (B : Option Addr) (d : Nat) (m : List Vr), v = .agg #[.slice A l.length c, .int .i64 x, .slice B m.length d] ∧
  Sl W encP 2 A l ∧ l.length ≤ maxLen ∧ (∀ p ∈ l, p.2.size ≤ maxLen) ∧ Sl W encV 3 B m ∧ m.length ≤ maxLen ∧ ∀ p ∈ m, p.2.2.size ≤ maxLen
theorem slice_of {t e : TypeId} {n : Nat} {v : Value} {y : DataW H × List MemPlace} (ht : Tryd.prog.underlying t = some (.slice e)) (h : DataW.trod enc Tryd.prog W 0 (fun _ => true) true n t [v] = some y) :
    ∃ A k c, v = .slice A k c := by
  rcases Go.Deep.open_slice ht h with ⟨hcs, _⟩ | ⟨ad, len, cap, m, q, D, Pl, hcs, _⟩
  · simp at hcs; exact ⟨_, _, _, hcs⟩
  · simp at hcs; exact ⟨_, _, _, hcs⟩
set_option maxRecDepth 100000 in
theorem openArchive {base : Nat} {v : Value} (hv : Value.okWide Tryd.prog W .any base 58 v) (h : DataW.Trod enc Tryd.prog W 0 (fun _ => true) true 58 v d p) : ArchiveIn W v := by
  obtain ⟨v0, v1, v2, y0, y1, y2, m, rfl, rfl, rfl, h0, h1, h2⟩ := Go.Joins.open_agg3 Tryd.underlying58 (by kernel_rfl) (by kernel_rfl) hv h
  obtain ⟨A, k, c, rfl⟩ := slice_of Tryd.underlying35 h0
  obtain ⟨B, k2, c2, rfl⟩ := slice_of Tryd.underlying56 h2
  obtain ⟨l, rfl, hnc, hcm, hs, hm⟩ := openPieces (d := y0.1) (p := y0.2) ⟨m, h0⟩
  obtain ⟨l2, rfl, hnc2, hcm2, hs2, hm2⟩ := openVersions (d := y2.1) (p := y2.2) ⟨m, h2⟩
  obtain ⟨x, e1, _, _⟩ := DataW.trod_int Tryd.underlying3 h1
  simp at e1
  subst e1
  exact ⟨A, c, l, x, B, c2, l2, rfl, hs, Nat.le_trans hnc hcm, hm, hs2, Nat.le_trans hnc2 hcm2, hm2⟩
end
end Go.Proofs.YtbpngpcjjinneaaDoor

/- FnExactArchiveValid, walked. Written by exgen_ar.py. -/
set_option linter.unusedVariables false
namespace Go.Proofs.YtbpngpcjjinneaaDoor
open Go.RowKit

theorem keep6 {w w' : World} {a b : Nat} {v0 v1 v2 v3 v4 v5 : Value} (hb : Below w.heap.size w w') (h : w.cell? ⟨a, 0, none⟩ = some v0 ∧ w.cell? ⟨a, 1, none⟩ = some v1 ∧ w.cell? ⟨a, 2, none⟩ = some v2 ∧ w.cell? ⟨b, 0, none⟩ = some v3 ∧ w.cell? ⟨b, 1, none⟩ = some v4 ∧ w.cell? ⟨b, 2, none⟩ = some v5) : w'.cell? ⟨a, 0, none⟩ = some v0 ∧ w'.cell? ⟨a, 1, none⟩ = some v1 ∧ w'.cell? ⟨a, 2, none⟩ = some v2 ∧ w'.cell? ⟨b, 0, none⟩ = some v3 ∧ w'.cell? ⟨b, 1, none⟩ = some v4 ∧ w'.cell? ⟨b, 2, none⟩ = some v5 :=
  ⟨Below_cells hb _ _ _ h.1, Below_cells hb _ _ _ h.2.1, Below_cells hb _ _ _ h.2.2.1, Below_cells hb _ _ _ h.2.2.2.1, Below_cells hb _ _ _ h.2.2.2.2.1, Below_cells hb _ _ _ h.2.2.2.2.2⟩
theorem join6 {w : World} {a b : Nat} {v0 v1 v2 v3 v4 v5 : Value} (h : w.cell? ⟨a, 0, none⟩ = some v0 ∧ w.cell? ⟨a, 1, none⟩ = some v1 ∧ w.cell? ⟨a, 2, none⟩ = some v2) (g : w.cell? ⟨b, 0, none⟩ = some v3 ∧ w.cell? ⟨b, 1, none⟩ = some v4 ∧ w.cell? ⟨b, 2, none⟩ = some v5) : w.cell? ⟨a, 0, none⟩ = some v0 ∧ w.cell? ⟨a, 1, none⟩ = some v1 ∧ w.cell? ⟨a, 2, none⟩ = some v2 ∧ w.cell? ⟨b, 0, none⟩ = some v3 ∧ w.cell? ⟨b, 1, none⟩ = some v4 ∧ w.cell? ⟨b, 2, none⟩ = some v5 :=
  ⟨h.1, h.2.1, h.2.2, g.1, g.2.1, g.2.2⟩
set_option maxHeartbeats 4000000 in
set_option maxRecDepth 100000 in
theorem wFnExactArchiveValid (v0 : Value) (w : World) (h0 : ArchiveIn w v0) (hmx : MaxL w) (htz : TzL w) : Calls Tryd.prog 7 #[v0] w (LawOk w) := by
  obtain ⟨A0, c0, l0, x0, B0, d0, m0, rfl, hs0, hln0, hm0, ht0, hln0b, hm0b⟩ := h0
  have HS0 := Lib.hid hs0
  have HT0 := Lib.hid ht0
  have HM0 := Lib.hid hm0
  have HM0b := Lib.hid hm0b
  have HLN0 := Lib.hid hln0
  have HLN0b := Lib.hid hln0b
  clear hs0 ht0 hm0 hm0b hln0 hln0b
  go_enter Tryd.func7, Tryd.ntmps7
  have HB0 := Lib.hid (Below.refl w.heap.size w)
  go_wp2_with fail
  refine (szArchive_any _ _ _ _ l0 m0 x0 _ ((HS0.out.below HB0.out).alloc _) HLN0.out HM0.out ((HT0.out.below HB0.out).alloc _) HLN0b.out HM0b.out).mono ?_
  rintro e w1 ⟨r0, rfl, hr0, hg0, hb⟩
  have HR_a0 := Lib.hid (Row3.new.below hb)
  have HB1 := Lib.hid (Below_then HB0.out (Below_of_alloc hb) (Nat.le_refl _))
  have hz1 := hb.size
  simp only [World.alloc_size_] at hz1
  have HG0 := Lib.hid hg0
  clear hb hg0
  by_cases hn0 : r0 < 0
  case pos =>
    go_wp2
    go_ret
    exact ⟨rfl, HB1.out⟩
  case neg =>
    obtain ⟨hl0, hl0b, hf0, hf0b⟩ := HG0.out (by omega)
    have HF0 := Lib.hid hf0
    have HF0b := Lib.hid hf0b
    clear hf0 hf0b HG0
    have HTZ := Lib.hid htz
    have HMX := Lib.hid hmx
    clear htz hmx
    have hf0 : FitP l0 := fun p hp => Nat.le_trans (HF0.out p hp) (by omega)
    have hf0b : FitV m0 := fun p hp => Nat.le_trans (HF0b.out p hp) (by omega)
    have hS := fun A B c d w h1 h2 => sArchiveValid_any A B c d l0 m0 x0 w h1 (by omega) hf0 h2 (by omega) hf0b
    have hI := fun A B c d w h1 h2 ht hm => iArchiveValid_any A B c d l0 m0 x0 w h1 (by omega) hf0 h2 (by omega) hf0b ht hm
    generalize archV ⟨l0, x0, m0⟩ = Rb at *
    have HCS := Lib.hid hS
    have HCI := Lib.hid hI
    clear hS hI hf0 hf0b
    obtain ⟨⟨x0_a0, x1_a0, x2_a0⟩, _, _⟩ := HR_a0.out
    go_wp2_with fail
    refine (toArchive_any _ _ _ _ l0 m0 x0 _ (HS0.out.below HB1.out) (by omega) (HT0.out.below HB1.out) (by omega)).mono ?_
    rintro e w2 ⟨p, q, rfl, hownp, hownq, hap, hb⟩
    replace HR_a0 := Lib.hid (HR_a0.out.below hb)
    have HB2 := Lib.hid (Below_then HB1.out hb (Nat.le_refl _))
    have hz2 := hb.size
    clear x0_a0 x1_a0 x2_a0
    obtain ⟨X_s0p, d_s0p, rfl, hle_s0p, _, _⟩ := hownp.sl
    have HU_s0p := Lib.hid hownp.up
    have HX_s0p := Lib.hid hownp.lo
    have HO_s0p := Lib.hid hownp
    obtain ⟨X_s0v, d_s0v, rfl, hle_s0v, _, _⟩ := hownq.sl
    have HU_s0v := Lib.hid hownq.up
    have HX_s0v := Lib.hid hownq.lo
    have HO_s0v := Lib.hid hownq
    have HAP_s0p := Lib.hid hap
    clear hb hownp hownq hap
    go_wp2_with fail
    refine (HCS.out _ _ _ _ _ HO_s0p.out.sl' HO_s0v.out.sl').mono ?_
    rintro e w3 ⟨rfl, hb⟩
    replace HR_a0 := Lib.hid (HR_a0.out.below hb)
    replace HO_s0p := Lib.hid (HO_s0p.out.below hb)
    replace HO_s0v := Lib.hid (HO_s0v.out.below hb)
    have HB3 := Lib.hid (Below_then HB2.out hb (Nat.le_refl _))
    have hz3 := hb.size
    clear hb
    clear HO_s0p HU_s0p HX_s0p
    clear HO_s0v HU_s0v HX_s0v
    obtain ⟨⟨x0_a0, x1_a0, x2_a0⟩, _, _⟩ := HR_a0.out
    go_wp2_with fail
    refine (toArchive_any _ _ _ _ l0 m0 x0 _ (HS0.out.below HB3.out) (by omega) (HT0.out.below HB3.out) (by omega)).mono ?_
    rintro e w4 ⟨p, q, rfl, hownp, hownq, hap, hb⟩
    replace HR_a0 := Lib.hid (HR_a0.out.below hb)
    have HB4 := Lib.hid (Below_then HB3.out hb (Nat.le_refl _))
    have hz4 := hb.size
    clear x0_a0 x1_a0 x2_a0
    obtain ⟨X_x0p, d_x0p, rfl, hle_x0p, _, _⟩ := hownp.sl
    have HU_x0p := Lib.hid hownp.up
    have HX_x0p := Lib.hid hownp.lo
    have HO_x0p := Lib.hid hownp
    obtain ⟨X_x0v, d_x0v, rfl, hle_x0v, _, _⟩ := hownq.sl
    have HU_x0v := Lib.hid hownq.up
    have HX_x0v := Lib.hid hownq.lo
    have HO_x0v := Lib.hid hownq
    have HAP_x0p := Lib.hid hap
    clear hb hownp hownq hap
    go_wp2_with fail
    refine (HCI.out _ _ _ _ _ (HO_x0p.out.alloc _).sl' (HO_x0v.out.alloc _).sl' (HTZ.out.below (HB4.out.alloc HB4.out.size _)) (HMX.out.below (HB4.out.alloc HB4.out.size _))).mono ?_
    rintro e w5 ⟨rfl, hb⟩
    have HR_x0 := Lib.hid (Row3.new.below hb)
    replace HR_a0 := Lib.hid (HR_a0.out.below (Below_of_alloc hb))
    replace HO_x0p := Lib.hid (HO_x0p.out.below (Below_of_alloc hb))
    replace HO_x0v := Lib.hid (HO_x0v.out.below (Below_of_alloc hb))
    have HB5 := Lib.hid (Below_then HB4.out (Below_of_alloc hb) (Nat.le_refl _))
    have hz5 := hb.size
    simp only [World.alloc_size_] at hz5
    clear hb
    have HKa := Lib.hid HR_a0.out.1
    have HKx := Lib.hid HR_x0.out.1
    have HK := Lib.hid (join6 HKa.out HKx.out)
    clear HKa HKx
    obtain ⟨⟨x0_a0, x1_a0, x2_a0⟩, _, _⟩ := HR_a0.out
    obtain ⟨⟨x0_x0, x1_x0, x2_x0⟩, _, _⟩ := HR_x0.out
    have HPx := Lib.hid HO_x0p.out
    have HVx := Lib.hid HO_x0v.out
    go_wp2_with fail
    go_region_held3 (fun w' => w'.cell? ⟨w.heap.size, 0, none⟩ = some (.slice A0 l0.length c0) ∧ w'.cell? ⟨w.heap.size, 1, none⟩ = some (.int .i64 x0) ∧ w'.cell? ⟨w.heap.size, 2, none⟩ = some (.slice B0 m0.length d0) ∧ w'.cell? ⟨w4.heap.size, 0, none⟩ = some (.slice X_x0p l0.length d_x0p) ∧ w'.cell? ⟨w4.heap.size, 1, none⟩ = some (.int .i64 x0) ∧ w'.cell? ⟨w4.heap.size, 2, none⟩ = some (.slice X_x0v m0.length d_x0v))
      (first | assumption | exact HK.out)
      ((first
        | (go_at_call 33; refine (toArchive_any _ _ _ _ l0 m0 x0 _ (by exact HS0.out.below HB5.out.drew) (by omega) (by exact HT0.out.below HB5.out.drew) (by omega)).mono ?_; rintro e w9 ⟨p, q, rfl, hownp, hownq, hap, hb⟩; obtain ⟨X_yp, d_yp, rfl, _, _, _⟩ := hownp.sl; obtain ⟨X_yv, d_yv, rfl, _, _, _⟩ := hownq.sl; have HYp := Lib.hid hownp; have HYv := Lib.hid hownq; have HK := Lib.hid (keep6 (Below_drew hb) HK.out); have HBy := Lib.hid (Below_then HB5.out (Below_drew hb) (Nat.le_refl _)); have HPx := Lib.hid (HPx.out.below (Below_drew hb)); have HVx := Lib.hid (HVx.out.below (Below_drew hb)); clear hb hownp hownq hap)
        | (go_at_call 19; refine (eqArchive_same _ _ _ _ _ _ _ _ l0 m0 _ _ HPx.out.sl' HYp.out.sl' (by omega) HVx.out.sl' HYv.out.sl' (by omega)).mono ?_; rintro e w10 ⟨rfl, hb⟩; have HBz := Lib.hid (Below_then HBy.out hb (Nat.le_refl _)); have HK := Lib.hid (keep6 hb HK.out); clear hb)))
    all_goals
      go_wp2
      go_ret
      exact ⟨rfl, HBz.out⟩
end Go.Proofs.YtbpngpcjjinneaaDoor

/- The frame of a law whose row lists variables of the library: the world's shape is kept beside the condition. -/
set_option linter.unusedVariables false
namespace Go.Proofs.YtbpngpcjjinneaaDoor
open Go Go.ChangeShapes Go.WideShapes
variable {H : Type} {enc : TypeId × Value → H}
theorem returns_and_shaped {a : Assume} {C : Checked} {os : Os} {f : FuncId} {fn : Func} {s : ChangeSpec} {conds : List PathCond} {apart fresh handsOn again : Bool} {X : World → Array Value → Prop}
    (hX : ∀ (w w' : World) (args : Array Value), w.heap = w'.heap → X w args → X w' args)
    (own : ownKnob C.prog.godebug = none) (started : os.Started) (noInit : C.prog.inits.idxOf? f = none) (hfn : C.prog.funcs[f]? = some fn)
    (witness : ∃ (w : World) (tape : Tape) (i : Input), w.os = os ∧ (w.forCall tape i).Shaped C.prog ∧ i.vars = [] ∧ Input.okWide C.prog (w.forCall tape i) .any w.heap.size f i ∧
      ((s.pre enc C.prog fn conds apart (w.forCall tape i).memory i.args ∧ X (w.forCall tape i).memory i.args) ∧ sizedMet enc C.prog fn (OpenSpec.ofChange s) apart (w.forCall tape i).memory i.args) ∧ a.holds C.prog (lone (Frame.enter C.prog f i.args .normal) [] (w.forCall tape i)))
    (contract : ∀ (W : World) (base : Nat) (args : Array Value) (ds gs : List (DataW H)) (before : List MemPlace),
      (∀ (j : Nat) t v, fn.params[j]? = some t → args[j]? = some v → Value.okWide C.prog W .any base t v) →
      DataW.Whole enc C.prog fn.params.toList s.vars apart W args.toList ds gs before → W.ShapedOpen C.prog → X W args →
      Calls C.prog f args W fun e W' => ∃ v, e = .returned v ∧ s.post enc C.prog fn apart fresh handsOn again W args v W') :
    ReturnsInHanded a C os f .any (fun w args => (s.pre enc C.prog fn conds apart w args ∧ X w args) ∧ sizedMet enc C.prog fn (OpenSpec.ofChange s) apart w args) (s.post enc C.prog fn apart fresh handsOn again) := by
  refine returnsInHanded_of_calls own started noInit witness ?_
  intro w tape i _ hsh _ hok hpre hholds
  obtain ⟨_, _, _, fn', hfn', _, _, _, _, hval⟩ := hok
  have e : fn' = fn := Option.some.inj (hfn'.symm.trans hfn)
  subst e
  obtain ⟨⟨⟨ds, gs, before, hw, hc⟩, hx⟩, hz⟩ := hpre
  have hw' := DataW.Whole.of_heap (w' := w.forCall tape i) (by rfl) hw
  refine (contract (w.forCall tape i) w.heap.size i.args ds gs before hval hw' hsh (hX _ _ _ (by rfl) hx)).mono fun e W' ⟨v, he, hp⟩ => ?_
  subst he
  exact ChangeSpec.post_blind hp
end Go.Proofs.YtbpngpcjjinneaaDoor

/- What the listed table of math/bits holds. -/
set_option linter.unusedVariables false
namespace Go.Proofs.YtbpngpcjjinneaaDoor
open Go Go.ChangeShapes Go.WideShapes
set_option maxRecDepth 100000 in
theorem tz_laid {W : World} (h : laidMetH Tryd.prog [("math/bits.deBruijn64tab", Rows.laid_math_bits_deBruijn64tab)] W) : TzL W := by
  rw [MakeChecks.laidMetH_plain _ _ _ (by kernel_rfl)] at h
  obtain ⟨ps, ⟨g, t, cs, fuel, p, q, hg, ht, hv, hd, _, _⟩, _, _⟩ := h
  obtain rfl := Option.some.inj ((show Tryd.prog.globalNamed "math/bits.deBruijn64tab" = some 5 by kernel_rfl).symm.trans hg)
  obtain rfl := Option.some.inj ((show (Tryd.prog.globals[5]?).map (·.type) = some 172 by kernel_rfl).symm.trans ht)
  obtain ⟨xs, m, _, ex, _, hl, hel⟩ := DataW.trod_array Tryd.underlying172 hd
  have c5 : Tryd.prog.cellsOf 5 = 1 := by kernel_rfl
  have hE := hel 15 (by omega)
  rw [c5, Nat.mul_one, List.getElem?_eq_getElem (by omega)] at hE
  obtain ⟨z, e1, e2, _⟩ := DataW.trod_int Tryd.underlying5 hE
  have e3 := (Prod.mk.inj ex).1
  unfold Rows.laid_math_bits_deBruijn64tab at e3
  have e4 : (xs.map (·.1))[15]? = some (.lit (.int .u8 4)) := by rw [← DataW.agg.inj e3]; rfl
  rw [List.getElem?_map, List.getElem?_eq_getElem (by omega : 15 < xs.length), e2] at e4
  have hz : z = 4 := by simpa using e4
  unfold TzL
  rw [World.var?_cell hg hv 15, ← hz]
  have : cs.toList[15]? = some (.int .u8 z) := by
    have h0 : ((cs.toList.drop 15).take 1)[0]? = some (.int .u8 z) := by rw [e1]; rfl
    simpa using h0
  simpa using this
end Go.Proofs.YtbpngpcjjinneaaDoor
