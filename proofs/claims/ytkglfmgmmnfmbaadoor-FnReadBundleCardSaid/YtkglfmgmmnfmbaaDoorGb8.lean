/- Texts in one: Pk, Wk1, Wk2, Wk3, De. -/
import Derived.Test.YtkglfmgmmnfmbaaDoorGb3
import Derived.Test.YtkglfmgmmnfmbaaDoorGb2
import Derived.Test.YtkglfmgmmnfmbaaDoorGa1
import Derived.Test.YtkglfmgmmnfmbaaDoorGb7
import Derived.Test.YtkglfmgmmnfmbaaDoorGa7
import Derived.Test.YtkglfmgmmnfmbaaDoorEv
import Derived.Test.YtkglfmgmmnfmbaaDoorGa9
/- PathParts and QuotasValid of the program, walked. -/
set_option linter.unusedVariables false
namespace Go.Proofs.YtkglfmgmmnfmbaaDoor
open Go.RowKit
def PathI (s : ByteArray) (w : World) (e : Ending) (w' : World) : Prop := ∃ v, e = .returned (.tuple #[v, .bool (pathP (bs s)).isSome]) ∧ Below w.heap.size w w'
/-- The program's PathParts: the parts, as a slice, and whether there are some. -/
def PathS (s : ByteArray) (w : World) (e : Ending) (w' : World) : Prop :=
  ∃ (l : List ByteArray) (A : Option Addr) (c : Nat), l = ((pathP (bs s)).getD []).map mk ∧ e = .returned (.tuple #[.slice A l.length c, .bool (pathP (bs s)).isSome]) ∧ l.length ≤ c ∧ Sl w' encS 1 A l ∧ Below w.heap.size w w'
theorem PathS.bool {s : ByteArray} {w w' : World} {e : Ending} (h : PathS s w e w') : PathI s w e w' := by
  obtain ⟨l, A, c, _, rfl, _, _, hb⟩ := h
  exact ⟨_, rfl, hb⟩
theorem PathS.no {s : ByteArray} {w w' : World} (h : pathP (bs s) = none) (hb : Below w.heap.size w w') : PathS s w (.returned (.tuple #[.slice none 0 0, .bool false])) w' := by
  refine ⟨[], none, 0, by rw [h]; rfl, by rw [h]; rfl, Nat.le_refl _, Sl.none_, hb⟩
theorem PathS.root {s : ByteArray} {w w' : World} (h : pathP (bs s) = some []) (hb : Below w.heap.size w w') : PathS s w (.returned (.tuple #[.slice none 0 0, .bool true])) w' := by
  refine ⟨[], none, 0, by rw [h]; rfl, by rw [h]; rfl, Nat.le_refl _, Sl.none_, hb⟩
theorem map_mk_bs (l : List ByteArray) : (l.map bs).map mk = l := by
  rw [List.map_map]
  exact (List.map_congr_left fun x _ => mk_tx x).trans (List.map_id _)
theorem PathS.yes {s : ByteArray} {l : List ByteArray} {w w' : World} {A : Option Addr} {c : Nat} (h : pathP (bs s) = some (l.map bs)) (hle : l.length ≤ c) (hsl : Sl w' encS 1 A l) (hb : Below w.heap.size w w') : PathS s w (.returned (.tuple #[.slice A l.length c, .bool true])) w' := by
  refine ⟨l, A, c, by rw [h, Option.getD_some, map_mk_bs], by rw [h]; rfl, hle, hsl, hb⟩
end Go.Proofs.YtkglfmgmmnfmbaaDoor

/- Walks by names: files, WalkTo, ReadAt. -/
set_option linter.unusedVariables false
namespace Go.Proofs.YtkglfmgmmnfmbaaDoor
open Go.RowKit
def FoRes (r : Option Bs) (w : World) (e : Ending) (w' : World) : Prop := e = .returned (.tuple #[.string (mk (r.getD [])), .bool r.isSome]) ∧ Below w.heap.size w w'
def WkRes (r : Option Int) (w : World) (e : Ending) (w' : World) : Prop := e = .returned (.tuple #[.int .i64 (r.getD (-1)), .bool r.isSome]) ∧ Below w.heap.size w w'
theorem WkRes.no {r : Option Int} (h : r = none) {w w' : World} (hb : Below w.heap.size w w') : WkRes r w (.returned (.tuple #[.int .i64 (-1), .bool false])) w' := by
  subst h; exact ⟨rfl, hb⟩
theorem WkRes.yes {r : Option Int} {p : Int} (h : r = some p) {w w' : World} (hb : Below w.heap.size w w') : WkRes r w (.returned (.tuple #[.int .i64 p, .bool true])) w' := by
  subst h; exact ⟨rfl, hb⟩
theorem walkTo_store_yes {s : List Pc} {root p : Int} {path : Bs} (h : walkTo s root path = some p) : storeV s = true := by
  cases hv : storeV s
  · rw [walkTo_store hv] at h; cases h
  · rfl
end Go.Proofs.YtkglfmgmmnfmbaaDoor

/- Walks by names, the reference's: GetText, l9Walk, WalkTo, ReadAt. -/
set_option linter.unusedVariables false
namespace Go.Proofs.YtkglfmgmmnfmbaaDoor
open Go.RowKit
set_option maxHeartbeats 1000000 in
set_option maxRecDepth 100000 in
theorem sGetText_any (A : Option Addr) (c : Nat) (l : List Pc) (p : Int) (w : World) (hs : Sl w encP 2 A l) (hl : l.length ≤ 16777216) (hf : FitP l) :
    Calls Tryd.prog 84 #[.slice A l.length c, .int .i64 p] w (GtRes (if storeV l then getT l p else none) w) := by
  have HS := Lib.hid hs
  have hSV := fun w h => sStoreValid_any A c l w h hl hf
  have hG := fun w h => sl4Get_any A c l p w h hl
  unfold GtRes
  clear hs
  cases hv : storeV l
  · rw [hv] at hSV
    have HSV := Lib.hid hSV
    clear hSV hG hv
    go_enter Tryd.func84, Tryd.ntmps84
    go_wp2_with fail
    refine (HSV.out _ HS.out).mono ?_
    rintro e w1 ⟨rfl, hb⟩
    have HB := Lib.hid hb
    clear hb
    go_wp2
    go_ret2
    exact ⟨rfl, HB.out⟩
  · rw [hv] at hSV
    rw [if_pos rfl]
    generalize getT l p = R at *
    generalize R.getD ⟨#[]⟩ = TT at *
    generalize R.isSome = B at *
    have HSV := Lib.hid hSV
    have HG := Lib.hid hG
    clear hSV hv hG
    go_enter Tryd.func84, Tryd.ntmps84
    go_wp2_with fail
    refine (HSV.out _ HS.out).mono ?_
    rintro e w1 ⟨rfl, hb⟩
    have HB := Lib.hid hb
    have HS1 := Lib.hid (HS.out.below hb)
    clear hb
    go_wp2_with (go_at_call 20; refine (HG.out _ HS1.out).mono ?_; rintro e w' ⟨rfl, rfl⟩)
    go_ret2
    exact ⟨rfl, HB.out⟩
def folT (t : ByteArray) : List En := (readF (bs t)).getD []
theorem folT_of {l : List Pc} {p : Int} : folT ((getT l p).getD ⟨#[]⟩) = (folderOf l p).getD [] := by
  unfold folT folderOf
  cases getT l p with
  | none => rfl
  | some t => rfl
theorem folT_some {l : List Pc} {p : Int} : (readF (bs ((getT l p).getD ⟨#[]⟩))).isSome = (folderOf l p).isSome := by
  unfold folderOf
  cases getT l p with
  | none => rfl
  | some t => rfl
theorem getT_size {l : List Pc} (hv : storeV l = true) {p : Int} : ((getT l p).getD ⟨#[]⟩).size ≤ 1048576 := by
  cases hg : getT l p with
  | none => decide
  | some t => exact Nat.le_trans (textV_size (getT_valid hv hg).1) (by omega)
theorem walkB_none2 {s : List Pc} {p : Int} {l : List ByteArray} {k : Nat} (hk : k < l.length) (h : getE ((folderOf s p).getD []) (tx l[k]) = none) : walkB s p (l.drop k) = none := by
  cases hf : folderOf s p with
  | none => exact walkB_none hk hf
  | some e => rw [hf] at h; exact walkB_miss hk hf h
theorem walkB_next2 {s : List Pc} {p q : Int} {l : List ByteArray} {k : Nat} (hk : k < l.length) (h : getE ((folderOf s p).getD []) (tx l[k]) = some q) : walkB s p (l.drop k) = walkB s q (l.drop (k + 1)) := by
  cases hf : folderOf s p with
  | none => rw [hf] at h; cases h
  | some e => rw [hf] at h; exact walkB_next hk hf h
set_option maxHeartbeats 4000000 in
set_option maxRecDepth 100000 in
theorem sl9Walk_any (A PA : Option Addr) (c pc : Nat) (l : List Pc) (pl : List ByteArray) (root : Int) (w : World) (hs : Sl w encP 2 A l) (hps : Sl w encS 1 PA pl) (hv : storeV l = true) (hp : pl.length ≤ 3) :
    Calls Tryd.prog 81 #[.slice A l.length c, .int .i64 root, .slice PA pl.length pc] w (WkRes (walkB l root (pl.drop 0)) w) := by
  have HS2 := Lib.hid hs
  have HPS2 := Lib.hid hps
  have HF := Lib.hid hv
  have hl : l.length ≤ 16777216 := by have := storeV_len hv; omega
  have HG := Lib.hid (fun p w h => sl4Get_any A c l p w h hl)
  generalize hE : walkB l root (pl.drop 0) = R
  have HE := Lib.hid hE.symm
  clear hs hps hv hE
  go_enter Tryd.func81, Tryd.ntmps81
  go_wp2_with fail
  go_loopw [1, 8] (fun va vi wr => ∃ (k : Nat) (at_ : Int), k ≤ pl.length ∧ va = .int .i64 at_ ∧ vi = .int .i64 k ∧ Hid (R = walkB l at_ (pl.drop k)) ∧ Hid (Below w.heap.size w wr)) (fun _ vi _ => pl.length - (intOf vi).toNat)
  case atStart => exact ⟨0, root, Nat.zero_le _, rfl, rfl, HE.out, Below.refl _ _⟩
  case round =>
    obtain ⟨k, at_, hk, rfl, rfl, HW, HBW⟩ := hrel
    have HSW := Lib.hid (HS2.out.below HBW.out)
    have HPW := Lib.hid (HPS2.out.below HBW.out)
    have hGA := HG.out at_
    by_cases hlt : k < pl.length
    · obtain ⟨bp, op, rfl, hc⟩ := HPW.out.getS hlt
      have hsz := getT_size HF.out (p := at_)
      have hRF := fun w => sReadFolder_any ((getT l at_).getD ⟨#[]⟩) w hsz
      have HNO := Lib.hid (fun h => HW.out.trans (walkB_none2 (s := l) (p := at_) hlt h))
      have HYES := Lib.hid (fun q h => HW.out.trans (walkB_next2 (q := q) (s := l) (p := at_) hlt h))
      have hFT := folT_of (l := l) (p := at_)
      have hen3 : ((folderOf l at_).getD []).length ≤ 3 := folder_len
      have hSome := folT_some (l := l) (p := at_)
      have hcase : (folderOf l at_).isSome = true ∨ ((folderOf l at_).isSome = false ∧ ((folderOf l at_).getD []) = []) := by
        cases folderOf l at_ with
        | none => exact .inr ⟨rfl, rfl⟩
        | some e => exact .inl rfl
      unfold RfRes at hRF
      unfold folT at hFT
      rw [hFT, hSome] at hRF
      generalize (folderOf l at_).getD [] = en at *
      generalize (folderOf l at_).isSome = okf at *
      generalize (getT l at_).getD ⟨#[]⟩ = TT at *
      generalize (getT l at_).isSome = okg at *
      have HRF := Lib.hid hRF
      have HGA := Lib.hid hGA
      clear hRF hGA hFT hSome hsz
      generalize pl[k] = nm at *
      go_wp2_with (go_at_call 20; refine (HGA.out _ HSW.out).mono ?_; rintro e w' ⟨rfl, rfl⟩)
      refine (HRF.out _).mono ?_
      rintro e w3 ⟨v3, rfl, hown3, hb3⟩
      obtain ⟨A3, c3, rfl, _, hs3, _⟩ := hown3.sl
      have HX3 := Lib.hid hs3
      have HB3 := Lib.hid (Below_then HBW.out hb3 (Nat.le_refl _))
      have hc3 := Below_cells hb3 _ _ _ hc
      clear hown3 hb3 hs3
      go_wp2_with fail
      go_loopw [1, 13, 14] (fun va vf vj wr => ∃ (j : Nat), j ≤ en.length ∧ va = .int .i64 at_ ∧ vf = .bool false ∧ vj = .int .i64 j ∧ Hid (∀ i (h : i < en.length), i < j → tx en[i].1 ≠ tx nm) ∧ Hid (Below w3.heap.size w3 wr)) (fun _ _ vj _ => en.length - (intOf vj).toNat)
      case atStart => exact ⟨0, Nat.zero_le _, rfl, rfl, rfl, fun i h h2 => by omega, Below.refl _ _⟩
      case round =>
        obtain ⟨j, hj, rfl, rfl, rfl, HJ, HBJ⟩ := hrel
        have HB4 := Lib.hid (Below_then HB3.out HBJ.out (Nat.le_refl _))
        have hd := Below_cells HBJ.out _ _ _ hc3
        by_cases hjl : j < en.length
        · obtain rfl : okf = true := by
            rcases hcase with h | ⟨_, h⟩
            · exact h
            · rw [h] at hjl; exact absurd hjl (by simp)
          obtain ⟨b2, o2, rfl, hy0, hy1⟩ := (HX3.out.below HBJ.out).getE hjl
          have hkl : (k : Int) < (pl.length : Int) := by omega
          have hjl' : (j : Int) < (en.length : Int) := by omega
          cases heq : (en[j].1.toList == nm.toList)
          · have hne : tx en[j].1 ≠ tx nm := by rw [eq_tlx] at heq; exact beq_eq_false_iff_ne.1 heq
            have HNX := Lib.hid (show ∀ i (h : i < en.length), i < j + 1 → tx en[i].1 ≠ tx nm from fun i h h2 => by
              by_cases e : i = j
              · subst e; exact hne
              · exact HJ.out i h (by omega))
            clear hne
            generalize en[j] = q at *
            obtain ⟨t, a⟩ := q
            simp only at *
            go_wp2_with fail
            go_quiet (fail)
            all_goals
              go_wp2
              go_round
              case rel => exact ⟨j + 1, by omega, rfl, rfl, by go_num, HNX.out, Below_drewN HBJ.out _⟩
              case measure => simp [intOf]; omega
          · have he : tx en[j].1 = tx nm := by rw [eq_tlx] at heq; exact beq_iff_eq.1 heq
            have HR := Lib.hid (HYES.out _ (getE_find hjl HJ.out he))
            clear he
            generalize en[j] = q at *
            obtain ⟨t, a⟩ := q
            simp only at *
            go_wp2_with fail
            go_quiet (fail)
            all_goals
              go_wp2
              go_roundw
              case rel => exact ⟨k + 1, a, by omega, rfl, by go_num, HR.out, Below_drewN HB4.out _⟩
              case measure => simp [intOf]; omega
        · have hjk : ¬ (j : Int) < (en.length : Int) := by omega
          have HR := Lib.hid (HNO.out (getE_end fun i h => HJ.out i h (by omega)))
          go_wp2
          go_ret2
          exact WkRes.no HR.out HB4.out
    · have hE2 := HW.out.trans (walkB_end (by omega))
      cases hg : getT l at_ with
      | none =>
        rw [hg] at hGA hE2
        have HGA := Lib.hid hGA
        have HE2 := Lib.hid (show R = none from hE2)
        clear hGA hE2 hg
        go_wp2_with (go_at_call 20; refine (HGA.out _ HSW.out).mono ?_; rintro e w' ⟨rfl, rfl⟩)
        go_ret2
        exact WkRes.no HE2.out HBW.out
      | some t =>
        rw [hg] at hGA hE2
        have HGA := Lib.hid hGA
        have HE2 := Lib.hid (show R = some at_ from hE2)
        clear hGA hE2 hg
        go_wp2_with (go_at_call 20; refine (HGA.out _ HSW.out).mono ?_; rintro e w' ⟨rfl, rfl⟩)
        go_ret2
        exact WkRes.yes HE2.out HBW.out
set_option maxHeartbeats 4000000 in
set_option maxRecDepth 100000 in
theorem sWalkTo_any (A : Option Addr) (c : Nat) (l : List Pc) (root : Int) (path : ByteArray) (w : World) (hs : Sl w encP 2 A l) (hl : l.length ≤ 16777216) (hf : FitP l) (hp : path.size ≤ 1048576) :
    Calls Tryd.prog 83 #[.slice A l.length c, .int .i64 root, .string path] w (WkRes (walkTo l root (bs path)) w) := by
  have HS := Lib.hid hs
  have hP := fun w => sPathParts_any path w hp
  unfold PathR at hP
  have hSV := fun w h => sStoreValid_any A c l w h hl hf
  clear hs
  cases hpp : pathP (bs path) with
  | none =>
    have HE := Lib.hid (walkTo_path (s := l) (root := root) hpp)
    rw [hpp] at hP
    have HP := Lib.hid hP
    clear hP hSV hpp
    go_enter Tryd.func83, Tryd.ntmps83
    go_wp2_with fail
    refine (HP.out _).mono ?_
    rintro e w1 ⟨v1, rfl, hown, hb⟩
    have HB := Lib.hid hb
    clear hb hown
    simp only [Option.isSome_none]
    go_wp2
    go_ret2
    exact WkRes.no HE.out HB.out
  | some ps =>
    have hp3 : (ps.map mk).length ≤ 3 := by rw [List.length_map]; exact (partsV_iff.1 (pathP_join hpp).1).1
    rw [hpp] at hP
    rw [show (some ps).getD [] = ps from rfl] at hP
    cases hv : storeV l
    · have HE := Lib.hid (walkTo_store (root := root) (path := bs path) hv)
      rw [hv] at hSV
      have HSV := Lib.hid hSV
      have HP := Lib.hid hP
      clear hP hSV hpp hv
      go_enter Tryd.func83, Tryd.ntmps83
      go_wp2_with fail
      refine (HP.out _).mono ?_
      rintro e w1 ⟨v1, rfl, hown, hb⟩
      have HB := Lib.hid hb
      have HS1 := Lib.hid (HS.out.below hb)
      clear hb hown
      simp only [Option.isSome_some]
      go_wp2_with fail
      refine (HSV.out _ HS1.out).mono ?_
      rintro e w2 ⟨rfl, hb2⟩
      have HB2 := Lib.hid (Below_then HB.out hb2 (Nat.le_refl _))
      clear hb2
      go_wp2
      go_ret2
      exact WkRes.no HE.out HB2.out
    · rw [hv] at hSV
      have HE := Lib.hid (walkTo_yes (root := root) hv hpp rfl)
      have HV := Lib.hid hv
      have HSV := Lib.hid hSV
      have HP := Lib.hid hP
      clear hP hSV hpp
      generalize ps.map mk = pl at *
      have HN := Lib.hid (fun PA pc w h h2 => sl9Walk_any A PA c pc l pl root w h h2 HV.out hp3)
      unfold WkRes at HN ⊢
      rw [HE.out]
      generalize walkB l root (pl.drop 0) = R at *
      generalize R.getD (-1) = RV at *
      generalize R.isSome = RB at *
      clear HE hv
      go_enter Tryd.func83, Tryd.ntmps83
      go_wp2_with fail
      refine (HP.out _).mono ?_
      rintro e w1 ⟨v1, rfl, hown, hb⟩
      obtain ⟨PA, pc, rfl, _, hps, _⟩ := hown.sl
      have HPS := Lib.hid hps
      have HB := Lib.hid hb
      have HS1 := Lib.hid (HS.out.below hb)
      clear hb hown hps
      simp only [Option.isSome_some]
      go_wp2_with fail
      refine (HSV.out _ HS1.out).mono ?_
      rintro e w2 ⟨rfl, hb2⟩
      have HB2 := Lib.hid (Below_then HB.out hb2 (Nat.le_refl _))
      have HS2 := Lib.hid (HS1.out.below hb2)
      have HPS2 := Lib.hid (HPS.out.below hb2)
      clear hb2
      go_wp2_with fail
      refine (HN.out _ _ _ HS2.out HPS2.out).mono ?_
      rintro e w3 ⟨rfl, hb3⟩
      have HB3 := Lib.hid (Below_then HB2.out hb3 (Nat.le_refl _))
      clear hb3
      go_wp2
      go_ret2
      exact ⟨rfl, HB3.out⟩
set_option maxHeartbeats 4000000 in
set_option maxRecDepth 100000 in
theorem sReadAt_any (A : Option Addr) (c : Nat) (l : List Pc) (root : Int) (path : ByteArray) (w : World) (hs : Sl w encP 2 A l) (hl : l.length ≤ 16777216) (hf : FitP l) (hp : path.size ≤ 1048576) :
    Calls Tryd.prog 62 #[.slice A l.length c, .int .i64 root, .string path] w (FoRes (readAt l root (bs path)) w) := by
  have HS := Lib.hid hs
  have hW := fun w h => sWalkTo_any A c l root path w h hl hf hp
  have hG := fun p w h => sGetText_any A c l p w h hl hf
  clear hs
  unfold WkRes at hW
  unfold GtRes at hG
  unfold readAt
  cases hw : walkTo l root (bs path) with
  | none =>
    rw [hw] at hW
    have HW := Lib.hid hW
    have HG := Lib.hid (hG (-1))
    generalize (if storeV l = true then getT l (-1) else none) = G at *
    generalize G.getD ⟨#[]⟩ = GV at *
    generalize G.isSome = GB at *
    clear hW hw hG
    unfold FoRes
    go_enter Tryd.func62, Tryd.ntmps62
    go_wp2_with fail
    refine (HW.out _ HS.out).mono ?_
    rintro e w1 ⟨rfl, hb⟩
    have HB := Lib.hid hb
    have HS1 := Lib.hid (HS.out.below hb)
    clear hb
    go_wp2_with fail
    refine (HG.out _ HS1.out).mono ?_
    rintro e w2 ⟨rfl, hb2⟩
    have HB2 := Lib.hid (Below_then HB.out hb2 (Nat.le_refl _))
    clear hb2
    go_wp2
    go_ret2
    exact ⟨rfl, HB2.out⟩
  | some q =>
    have hv := walkTo_store_yes hw
    rw [hw] at hW
    have hGQ := hG q
    rw [hv, if_pos rfl] at hGQ
    have hsz := getT_size hv (p := q)
    have hRF := fun w => sReadFile_any ((getT l q).getD ⟨#[]⟩) w (by omega)
    have hfo : readFi (bs ((getT l q).getD ⟨#[]⟩)) = fileOf l q := by
      unfold fileOf
      cases getT l q with
      | none => rfl
      | some t => rfl
    rw [hfo] at hRF
    rw [Option.bind_some]
    unfold FoRes
    unfold RdRes at hRF
    generalize (getT l q).getD ⟨#[]⟩ = GV at *
    generalize (getT l q).isSome = GB at *
    generalize fileOf l q = R at *
    generalize mk (R.getD []) = TT at *
    generalize R.isSome = B at *
    have HRF := Lib.hid hRF
    have HW := Lib.hid hW
    have HG := Lib.hid hGQ
    clear hW hw hG hGQ hRF hfo hv
    go_enter Tryd.func62, Tryd.ntmps62
    go_wp2_with fail
    refine (HW.out _ HS.out).mono ?_
    rintro e w1 ⟨rfl, hb⟩
    have HB := Lib.hid hb
    have HS1 := Lib.hid (HS.out.below hb)
    clear hb
    go_wp2_with fail
    refine (HG.out _ HS1.out).mono ?_
    rintro e w2 ⟨rfl, hb2⟩
    have HB2 := Lib.hid (Below_then HB.out hb2 (Nat.le_refl _))
    clear hb2
    go_wp2_with (go_at_call 45; refine (HRF.out _).mono ?_; rintro e w' ⟨rfl, rfl⟩)
    go_ret2
    exact ⟨rfl, HB2.out⟩
end Go.Proofs.YtkglfmgmmnfmbaaDoor

/- All files below a folder, the program's: filesBelow, AllFiles. -/
set_option linter.unusedVariables false
namespace Go.Proofs.YtkglfmgmmnfmbaaDoor
open Go.RowKit
def RowE (w : World) (g : Nat) (y : En) : Prop := w.cell? ⟨g, 0, none⟩ = some (.string y.1) ∧ w.cell? ⟨g, 1, none⟩ = some (.int .i64 y.2)
theorem RowE.new (w : World) (y : En) : RowE (w.alloc (rowE y)) w.heap.size y := ⟨new_cell rfl, new_cell rfl⟩
theorem RowE.below {w w' : World} {g : Nat} {y : En} (h : RowE w g y) (hb : Below w.heap.size w w') : RowE w' g y := ⟨Below_cells hb _ _ _ h.1, Below_cells hb _ _ _ h.2⟩
theorem StrAt.below {w w' : World} {g : Nat} {y : ByteArray} (h : StrAt w g y) (hb : Below w.heap.size w w') : StrAt w' g y := Below_cells hb _ _ _ h
theorem entOk_size {e : En} (h : entOk e = true) : e.1.size ≤ 8 := by
  have := (entOk_iff.1 h).1
  unfold wordV at this
  rw [Bool.and_eq_true, Bool.and_eq_true, decide_eq_true_eq] at this
  exact this.1.1.2
end Go.Proofs.YtkglfmgmmnfmbaaDoor

/- DropEntry of the reference. -/
set_option linter.unusedVariables false
namespace Go.Proofs.YtkglfmgmmnfmbaaDoor
open Go.RowKit
/-- A list of entries and whether it was possible. -/
def EnRes (r : List En × Bool) (w : World) (e : Ending) (w' : World) : Prop :=
  ∃ v, e = .returned (.tuple #[v, .bool r.2]) ∧ Own w' w.heap.size 91 2 encE v r.1 ∧ Below w.heap.size w w'
def dropQ (n : Bs) (l : List En) : List En := l.filter fun x => !(tx x.1 == n)
theorem dropQ_next {n : Bs} {l : List En} {k : Nat} (h : k < l.length) : dropQ n (l.take (k + 1)) = dropQ n (l.take k) ++ if (tx l[k].1 == n) then [] else [l[k]] := by
  unfold dropQ
  rw [List.take_succ_eq_append_getElem h, List.filter_append]
  cases hp : (tx l[k].1 == n) <;> simp [hp]
theorem dropQ_len (n : Bs) (l : List En) : (dropQ n l).length ≤ l.length := List.length_filter_le _ _
set_option maxHeartbeats 4000000 in
set_option maxRecDepth 100000 in
theorem sDropEntry_any (A : Option Addr) (c : Nat) (l : List En) (n : ByteArray) (w : World) (hs : Sl w encE 2 A l) (hv : entsV l = true) :
    Calls Tryd.prog 98 #[.slice A l.length c, .string n] w (EnRes (dropE l (bs n)) w) := by
  have HS := Lib.hid hs
  have HB := Lib.hid ((Below.refl w.heap.size w).alloc (Nat.le_refl _) madeEn)
  have HW := Lib.hid (Own.made (enc := encE) (E := 91) (size := 2) (Nat.le_refl w.heap.size))
  have hl3 := entsV_len hv
  have hEV := fun w h => sEntriesValid_any A c l w h (by omega) (fitE_valid hv)
  rw [hv] at hEV
  have HEV := Lib.hid hEV
  have E1 : Hid ((dropE l (bs n)).1 = dropQ (bs n) l) := dropE_filter hv (bs n)
  have E2 := Lib.hid (show decide ((dropQ (bs n) l).length < l.length) = (dropE l (bs n)).2 by
    rw [dropE_ok hv, ← dropE_lt hv (bs n), show (dropE l (bs n)).1 = dropQ (bs n) l from dropE_filter hv (bs n)])
  have HLQ := Lib.hid (fun k => dropQ_len (bs n) (l.take k))
  clear hEV hs
  generalize dropE l (bs n) = R at *
  unfold EnRes
  go_enter Tryd.func98, Tryd.ntmps98
  go_wp2_with fail
  go_loopw [6, 7] (fun v i wr => ∃ (k : Nat), k ≤ l.length ∧ i = .int .i64 k ∧ Own wr w.heap.size 91 2 encE v (dropQ (bs n) (l.take k)) ∧ Hid (Below w.heap.size w wr)) (fun _ i _ => l.length - (intOf i).toNat)
  case atStart => exact ⟨0, Nat.zero_le _, rfl, HW.out, HB.out⟩
  case round =>
    obtain ⟨k, hk, rfl, hown, HBW⟩ := hrel
    have HWW := Lib.hid hown
    clear hown
    by_cases hlt : k < l.length
    · have hlt' : (k : Int) < (l.length : Int) := by omega
      obtain ⟨b, o, hA, _, _⟩ := (HS.out.below HBW.out).getE hlt
      subst hA
      have HN := Lib.hid (dropQ_next (n := bs n) hlt)
      have hla := HLQ.out k
      have hla2 : (dropQ (bs n) (l.take k)).length ≤ 16777216 := by rw [List.length_take] at hla; omega
      go_wp2_with fail
      refine (HEV.out _ (HS.out.below HBW.out)).mono ?_
      rintro e w3 ⟨rfl, hb⟩
      replace HBW := Lib.hid (Below_then HBW.out hb (Nat.le_refl _))
      replace HWW := Lib.hid (HWW.out.below hb)
      clear hb
      obtain ⟨b2, o2, e2, hc0, hc1⟩ := (HS.out.below HBW.out).getE hlt
      injection e2 with e2; injection e2 with e3 e4
      subst e3 e4
      generalize l[k] = y at *
      obtain ⟨t, a⟩ := y
      simp only at hc0 hc1
      cases hq : (t.toList == n.toList)
      · have hne : (tx t == bs n) = false := by rw [eq_tlx] at hq; exact hq
        have HN2 := Lib.hid (show dropQ (bs n) (l.take (k + 1)) = dropQ (bs n) (l.take k) ++ [(t, a)] by rw [HN.out]; show _ ++ (if (tx t == bs n) = true then _ else _) = _; rw [hne]; rfl)
        clear hne HN
        go_wp2_with (at_builtin; refine app_en (w0 := w) (base := w.heap.size) (y := (t, a)) rfl rfl rfl rfl HWW.out HBW.out (Nat.le_refl _) HBW.out.size hla2 ?_; intro v1 w6 hown6 hb6; have HW6 := Lib.hid hown6; have HB6 := Lib.hid hb6; clear hown6 hb6)
        go_roundw
        case rel => exact ⟨k + 1, by omega, by go_num, by rw [HN2.out]; exact HW6.out, HB6.out⟩
        case measure => simp [intOf]; omega
      · have hne : (tx t == bs n) = true := by rw [eq_tlx] at hq; exact hq
        have HN2 := Lib.hid (show dropQ (bs n) (l.take (k + 1)) = dropQ (bs n) (l.take k) by rw [HN.out]; show _ ++ (if (tx t == bs n) = true then _ else _) = _; rw [hne]; simp)
        clear hne HN
        go_wp2
        go_roundw
        case rel => exact ⟨k + 1, by omega, by go_num, by rw [HN2.out]; exact HWW.out, HBW.out⟩
        case measure => simp [intOf]; omega
    · have hlt' : ¬ (k : Int) < (l.length : Int) := by omega
      have HE := Lib.hid (show l.take k = l from List.take_of_length_le (by omega))
      rw [HE.out] at HWW
      obtain ⟨X, d, e6, hle6, hs6, _⟩ := HWW.out.sl
      subst e6
      go_wp2_with fail
      refine (HEV.out _ (HS.out.below HBW.out)).mono ?_
      rintro e w3 ⟨rfl, hb⟩
      replace HBW := Lib.hid (Below_then HBW.out hb (Nat.le_refl _))
      replace HWW := Lib.hid (HWW.out.below hb)
      clear hb hs6
      by_cases hlq : (dropQ (bs n) l).length < l.length
      · have hlq' : ((dropQ (bs n) l).length : Int) < (l.length : Int) := by omega
        have HR2 := Lib.hid (show R.2 = true by rw [← E2.out]; exact decide_eq_true hlq)
        go_wp2
        go_ret2
        rw [HR2.out, E1.out]
        exact ⟨_, rfl, HWW.out, HBW.out⟩
      · have hlq' : ¬ ((dropQ (bs n) l).length : Int) < (l.length : Int) := by omega
        have HR2 := Lib.hid (show R.2 = false by rw [← E2.out]; exact decide_eq_false hlq)
        go_wp2
        go_ret2
        rw [HR2.out, E1.out]
        exact ⟨_, rfl, HWW.out, HBW.out⟩
end Go.Proofs.YtkglfmgmmnfmbaaDoor
