/- Texts in one: Pk, Wk1, Wk2, Wk3, De. -/
import Derived.Test.YtokelopllbaikaaGreatDoorGb3
import Derived.Test.YtokelopllbaikaaGreatDoorGb2
import Derived.Test.YtokelopllbaikaaGreatDoorGa1
import Derived.Test.YtokelopllbaikaaGreatDoorGb7
import Derived.Test.YtokelopllbaikaaGreatDoorGa7
import Derived.Test.YtokelopllbaikaaGreatDoorEv
import Derived.Test.YtokelopllbaikaaGreatDoorGa9
/- PathParts and QuotasValid of the program, walked. -/
set_option linter.unusedVariables false
namespace Go.Proofs.YtokelopllbaikaaGreatDoor
open Go.RowKit
theorem pre_yes (r : Bs) : Go.Lib.hasPrefix (47 :: r) [47] = true ∧ Go.Lib.trimPrefix (47 :: r) [47] = r := by
  constructor
  · simp [Go.Lib.hasPrefix]
  · simp [Go.Lib.trimPrefix, Go.Lib.hasPrefix]
theorem pre_no {s : Bs} (h : s.headD 0 ≠ 47) : Go.Lib.hasPrefix s [47] = false := by
  cases s with
  | nil => rfl
  | cons x r =>
    simp at h
    have h2 : ((47 : UInt8) == x) = false := beq_eq_false_iff_ne.2 (fun e => h (Eq.symm e))
    show ((47 : UInt8) == x && ([] : Bs).isPrefixOf r) = false
    rw [h2]; rfl
theorem path_head {s : Bs} (h1 : s ≠ [47]) (h : s.headD 0 ≠ 47) : pathP s = none := by
  unfold pathP; rw [if_neg h1, if_neg h]
theorem head_cons {s : ByteArray} (h : (bs s).headD 0 = 47) : ∃ r : ByteArray, bs s = 47 :: bs r ∧ r.size ≤ s.size := by
  cases hs : bs s with
  | nil => rw [hs] at h; exact absurd h (by decide)
  | cons x r =>
    rw [hs] at h; simp at h; subst h
    refine ⟨mk r, rfl, ?_⟩
    have := size_bs s
    rw [hs] at this; rw [mk_size]; simp at this; omega
theorem CutSl_yes {s r : ByteArray} (w : World) (h : bs s = 47 :: bs r) : Calls Tryz.prog 36 #[.string s, .string ⟨#[47]⟩] w fun e w' => e = .returned (.tuple #[.string r, .bool true]) ∧ w = w' := by
  refine (Tryz.strings_CutPrefix s ⟨#[47]⟩ w).mono fun e w' ⟨h1, h2⟩ => ⟨?_, h2.symm⟩
  rw [h1]
  have e1 : s.data.toList = 47 :: bs r := h
  rw [e1]
  have h3 := pre_yes (bs r)
  rw [show (⟨#[47]⟩ : ByteArray).data.toList = [47] from rfl, h3.1, h3.2]
theorem CutSl_no {s : ByteArray} (w : World) (h : (bs s).headD 0 ≠ 47) : Calls Tryz.prog 36 #[.string s, .string ⟨#[47]⟩] w fun e w' => (∃ x, e = .returned (.tuple #[.string x, .bool false])) ∧ w = w' := by
  refine (Tryz.strings_CutPrefix s ⟨#[47]⟩ w).mono fun e w' ⟨h1, h2⟩ => ⟨?_, h2.symm⟩
  rw [h1]
  have h3 := pre_no h
  rw [show (⟨#[47]⟩ : ByteArray).data.toList = [47] from rfl, h3]
  exact ⟨_, rfl⟩
theorem splitK_size : ∀ (s : Bs) (k : Nat) (p : Bs), p ∈ Go.Lib.splitK [47] 0 k s → p.length ≤ s.length
  | [], k, p, hp => by
    have e : Go.Lib.splitK [47] 0 k [] = [[]] := by cases k <;> simp [Go.Lib.splitK, index_nil]
    rw [e] at hp; rw [List.mem_singleton.1 hp]; exact Nat.le_refl _
  | c :: r, k, p, hp => by
    by_cases e : c = 47
    · subst e
      cases k with
      | zero =>
        have e : Go.Lib.splitK [47] 0 0 (47 :: r) = [47 :: r] := rfl
        rw [e] at hp; rw [List.mem_singleton.1 hp]; exact Nat.le_refl _
      | succ k =>
        rw [splitK_hit] at hp
        rcases List.mem_cons.1 hp with h | h
        · rw [h]; exact Nat.zero_le _
        · exact Nat.le_trans (splitK_size r k p h) (Nat.le_succ _)
    · rw [splitK_skip e] at hp
      have ih := splitK_size r k
      cases hs : Go.Lib.splitK [47] 0 k r with
      | nil => exact absurd hs (splitK_ne _ _ _)
      | cons q t =>
        rw [hs] at hp ih
        rcases List.mem_cons.1 hp with h | h
        · rw [h, List.length_cons, List.length_cons]; exact Nat.succ_le_succ (ih q (by simp))
        · exact Nat.le_trans (ih p (by simp [h])) (Nat.le_succ _)
theorem partsB_size {r p : ByteArray} (h : p ∈ partsB r) : p.size ≤ r.size := by
  have h2 : bs p ∈ (partsB r).map bs := List.mem_map.2 ⟨p, h, rfl⟩
  rw [partsB_map] at h2
  exact splitK_size _ _ _ h2
def PathI (s : ByteArray) (w : World) (e : Ending) (w' : World) : Prop := ∃ v, e = .returned (.tuple #[v, .bool (pathP (bs s)).isSome]) ∧ Below w.heap.size w w'
/-- The program's PathParts: the parts, as a slice, and whether there are some. -/
def PathS (s : ByteArray) (w : World) (e : Ending) (w' : World) : Prop :=
  ∃ (l : List ByteArray) (A : Option Addr) (c : Nat), l = ((pathP (bs s)).getD []).map mk ∧ e = .returned (.tuple #[.slice A l.length c, .bool (pathP (bs s)).isSome]) ∧ l.length ≤ c ∧ Sl w' encS 1 A l ∧ Below w.heap.size w w'
theorem PathS.bool {s : ByteArray} {w w' : World} {e : Ending} (h : PathS s w e w') : PathI s w e w' := by
  obtain ⟨l, A, c, _, rfl, _, _, hb⟩ := h
  exact ⟨_, rfl, hb⟩
theorem PathS.no {s : ByteArray} {w w' : World} (h : pathP (bs s) = none) (hb : Below w.heap.size w w') : PathS s w (.returned (.tuple #[.slice none 0 0, .bool false])) w' := by
  refine ⟨[], none, 0, by rw [h]; rfl, by rw [h]; rfl, Nat.le_refl _, Sl.none_, hb⟩
theorem PathS.root {s : ByteArray} {w w' : World} (h : pathP (bs s) = some []) (hb : Below w.heap.size w w') : PathS s w (.returned (.tuple #[.slice none 0 0, .bool true])) w' := by
  refine ⟨[], none, 0, by rw [h]; rfl, by rw [h]; rfl, Nat.le_refl _, Sl.none_, hb⟩
theorem map_mk_bs (l : List ByteArray) : (l.map bs).map mk = l := by
  rw [List.map_map]
  exact (List.map_congr_left fun x _ => mk_tx x).trans (List.map_id _)
theorem PathS.yes {s : ByteArray} {l : List ByteArray} {w w' : World} {A : Option Addr} {c : Nat} (h : pathP (bs s) = some (l.map bs)) (hle : l.length ≤ c) (hsl : Sl w' encS 1 A l) (hb : Below w.heap.size w w') : PathS s w (.returned (.tuple #[.slice A l.length c, .bool true])) w' := by
  refine ⟨l, A, c, by rw [h, Option.getD_some, map_mk_bs], by rw [h]; rfl, hle, hsl, hb⟩
theorem path_parts_no {r : ByteArray} {s : Bs} (hs : s = 47 :: bs r) (h1 : s ≠ [47]) (h : ¬ joinP ((partsB r).map bs) = s) : pathP s = none := by
  have := path_parts hs h1
  rw [decide_eq_false h] at this
  cases hp : pathP s with
  | none => rfl
  | some x => rw [hp] at this; cases this
set_option maxHeartbeats 4000000 in
set_option maxRecDepth 100000 in
theorem iPathPartsS_any (s : ByteArray) (w : World) (hs : s.size ≤ 1048576) (hm : MaxL w) : Calls Tryz.prog 18 #[.string s] w (PathS s w) := by
  cases h1 : (s.toList == [47])
  case true =>
    have hE : bs s = [47] := by rw [ByteArray.toList_eq] at h1; exact beq_iff_eq.1 h1
    have HE := Lib.hid (show pathP (bs s) = some [] by rw [hE]; decide)
    clear hE
    go_enter Tryz.func18, Tryz.ntmps18
    go_wp2
    go_ret2
    exact PathS.root HE.out (Below.refl _ _)
  case false =>
    have hne47 : bs s ≠ [47] := fun e => by rw [ByteArray.toList_eq] at h1; change (bs s == [47]) = false at h1; rw [e] at h1; cases h1
    by_cases hh : (bs s).headD 0 = 47
    case neg =>
      have HE := Lib.hid (path_head hne47 hh)
      have HC := Lib.hid (fun w => CutSl_no w hh)
      clear hne47 hh
      go_enter Tryz.func18, Tryz.ntmps18
      go_wp2_with fail
      refine (HC.out _).mono ?_
      rintro e w2 ⟨⟨x, rfl⟩, rfl⟩
      go_wp2
      go_ret2
      exact PathS.no HE.out (Below.refl _ _)
    case pos =>
      obtain ⟨r, hr, hrz⟩ := head_cons hh
      have hnn : bs s ≠ [] := by rw [hr]; simp
      have hNo := path_parts_no hr hne47
      have HC := Lib.hid (fun w => CutSl_yes w hr)
      have HSP := Lib.hid (SplitN_any r w (by omega) hm)
      have hpl := partsB_len r
      have hpz : ∀ p ∈ partsB r, p.size ≤ 16777216 := fun p hp => by
        have := partsB_size hp; omega
      have HJ := Lib.hid (fun A c w h h2 => iJoinPath_any A c (partsB r) w h h2 (by omega) hpz)
      clear hne47 hh hr hpz
      generalize partsB r = P at *
      by_cases he : joinP (P.map bs) = bs s
      · have heq : ((mk (joinP (P.map bs))).toList == s.toList) = true := by rw [eq_tlx]; exact beq_iff_eq.2 he
        have HE := Lib.hid (pathP_back hnn he)
        clear hNo he hnn
        generalize mk (joinP (P.map bs)) = JJ at *
        go_enter Tryz.func18, Tryz.ntmps18
        go_wp2_with (go_at_call 36; refine (HC.out _).mono ?_; rintro e w' ⟨rfl, rfl⟩)
        refine HSP.out.mono ?_
        rintro e w2 ⟨A, c, rfl, hle, hsl, hb⟩
        have HB := Lib.hid hb
        have HS := Lib.hid hsl
        clear hb hsl
        go_wp2_with fail
        refine (HJ.out _ _ _ HS.out hle).mono ?_
        rintro e w3 ⟨rfl, hb⟩
        have HB3 := Lib.hid (Below_then HB.out hb (Nat.le_refl _))
        have HS3 := Lib.hid (HS.out.below hb)
        clear hb
        go_wp2
        go_ret2
        exact PathS.yes HE.out hle HS3.out HB3.out
      · have heq : ((mk (joinP (P.map bs))).toList == s.toList) = false := by rw [eq_tlx]; exact beq_eq_false_iff_ne.2 he
        have HE := Lib.hid (hNo he)
        clear hNo he hnn
        generalize mk (joinP (P.map bs)) = JJ at *
        go_enter Tryz.func18, Tryz.ntmps18
        go_wp2_with (go_at_call 36; refine (HC.out _).mono ?_; rintro e w' ⟨rfl, rfl⟩)
        refine HSP.out.mono ?_
        rintro e w2 ⟨A, c, rfl, hle, hsl, hb⟩
        have HB := Lib.hid hb
        have HS := Lib.hid hsl
        clear hb hsl
        go_wp2_with fail
        refine (HJ.out _ _ _ HS.out hle).mono ?_
        rintro e w3 ⟨rfl, hb⟩
        have HB3 := Lib.hid (Below_then HB.out hb (Nat.le_refl _))
        have HS3 := Lib.hid (HS.out.below hb)
        clear hb
        go_wp2
        go_ret2
        exact PathS.no HE.out HB3.out
theorem iPathParts_any (s : ByteArray) (w : World) (hs : s.size ≤ 1048576) (hm : MaxL w) : Calls Tryz.prog 18 #[.string s] w (PathI s w) :=
  (iPathPartsS_any s w hs hm).mono fun _ _ h => h.bool
end Go.Proofs.YtokelopllbaikaaGreatDoor

/- Walks by names: files, WalkTo, ReadAt. -/
set_option linter.unusedVariables false
namespace Go.Proofs.YtokelopllbaikaaGreatDoor
open Go.RowKit
set_option maxHeartbeats 1000000 in
set_option maxRecDepth 100000 in
theorem iContentValid_any (s : ByteArray) (w : World) (hs : s.size ≤ 16777216) :
    Calls Tryz.prog 20 #[.string s] w fun e w' => e = .returned (.bool (contV (bs s))) ∧ w = w' := by
  have hTV := fun w => iTextValid_any s w hs
  have E := Lib.hid (show contV (bs s) = (textV (bs s) && decide (s.size ≤ 40)) from rfl)
  rw [E.out]
  cases hv : textV (bs s)
  · rw [hv] at hTV
    have HTV := Lib.hid hTV
    clear hTV hv E
    go_enter Tryz.func20, Tryz.ntmps20
    go_wp2_with (go_at_call 16; refine (HTV.out _).mono ?_; rintro e w' ⟨rfl, rfl⟩)
    go_ret
    exact ⟨rfl, rfl⟩
  · rw [hv] at hTV
    have HTV := Lib.hid hTV
    clear hTV hv E
    by_cases h : s.size ≤ 40
    · have h' : (s.size : Int) ≤ 40 := by omega
      rw [decide_eq_true h]
      clear h
      go_enter Tryz.func20, Tryz.ntmps20
      go_wp2_with (go_at_call 16; refine (HTV.out _).mono ?_; rintro e w' ⟨rfl, rfl⟩)
      go_ret
      first | exact ⟨rfl, rfl⟩ | exact ⟨ret_bool (decide_eq_true h'), rfl⟩
    · have h' : ¬ (s.size : Int) ≤ 40 := by omega
      rw [decide_eq_false h]
      clear h
      go_enter Tryz.func20, Tryz.ntmps20
      go_wp2_with (go_at_call 16; refine (HTV.out _).mono ?_; rintro e w' ⟨rfl, rfl⟩)
      go_ret
      first | exact ⟨rfl, rfl⟩ | exact ⟨ret_bool (decide_eq_false (Int.not_le.2 h')), rfl⟩
set_option maxHeartbeats 1000000 in
set_option maxRecDepth 100000 in
theorem iReadFile_any (s : ByteArray) (w : World) (hs : s.size ≤ 16777216) : Calls Tryz.prog 57 #[.string s] w (RdRes (readFi (bs s)) w) := by
  unfold RdRes
  have hCP := fun w => CutPrefix_any s 102 w hs
  unfold prefV at hCP
  by_cases h0 : 0 < s.size ∧ (bs s).headD 0 = 102
  · have hE := readFi_head h0.1
    have h1 : s[0]'h0.1 = 102 := (head_bs0 h0.1).symm.trans h0.2
    have hts : (mk (bs s).tail).size ≤ 16777216 := by rw [mk_size, List.length_tail, size_bs]; omega
    have hCV := fun w => iContentValid_any (mk (bs s).tail) w hts
    rw [show bs (mk (bs s).tail) = (bs s).tail from rfl] at hCV
    simp only [if_pos h0] at hCP
    cases hc : contV (bs s).tail
    · rw [if_neg (by rw [hc]; simp)] at hE
      rw [hc] at hCV
      have HCV := Lib.hid hCV
      have HCP := Lib.hid hCP
      have HE := Lib.hid hE
      clear hCV hE hc h1 hCP
      rw [HE.out]
      generalize mk (bs s).tail = TT at *
      go_enter Tryz.func57, Tryz.ntmps57
      go_wp2_with (first | (go_at_call 36; refine (HCP.out _).mono ?_; rintro e w' ⟨rfl, rfl⟩) | (go_at_call 20; refine (HCV.out _).mono ?_; rintro e w' ⟨rfl, rfl⟩))
      go_ret2
      exact ⟨rfl, rfl⟩
    · rw [if_pos ⟨h1, hc⟩] at hE
      rw [hc] at hCV
      have HCV := Lib.hid hCV
      have HCP := Lib.hid hCP
      have HE := Lib.hid hE
      clear hCV hE hc h1 hCP
      rw [HE.out]
      show Calls _ _ _ _ fun e w' => e = .returned (.tuple #[.string (mk (bs s).tail), .bool true]) ∧ w = w'
      generalize mk (bs s).tail = TT at *
      go_enter Tryz.func57, Tryz.ntmps57
      go_wp2_with (first | (go_at_call 36; refine (HCP.out _).mono ?_; rintro e w' ⟨rfl, rfl⟩) | (go_at_call 20; refine (HCV.out _).mono ?_; rintro e w' ⟨rfl, rfl⟩))
      go_ret2
      exact ⟨rfl, rfl⟩
  · have hE : readFi (bs s) = none := by
      by_cases hz : 0 < s.size
      · rw [readFi_head hz, if_neg]
        rintro ⟨h1, _⟩
        exact h0 ⟨hz, (head_bs0 hz).trans h1⟩
      · rw [show bs s = [] from List.eq_nil_of_length_eq_zero (by rw [size_bs]; omega)]; rfl
    simp only [if_neg h0] at hCP
    have HCP := Lib.hid hCP
    have HE := Lib.hid hE
    clear hE hCP h0
    rw [HE.out]
    go_enter Tryz.func57, Tryz.ntmps57
    go_wp2_with (go_at_call 36; refine (HCP.out _).mono ?_; rintro e w' ⟨rfl, rfl⟩)
    go_ret2
    exact ⟨rfl, rfl⟩
def FoRes (r : Option Bs) (w : World) (e : Ending) (w' : World) : Prop := e = .returned (.tuple #[.string (mk (r.getD [])), .bool r.isSome]) ∧ Below w.heap.size w w'
set_option maxHeartbeats 1000000 in
set_option maxRecDepth 100000 in
theorem ifileOf_any (A : Option Addr) (c : Nat) (l : List Pc) (p : Int) (w : World) (hs : Sl w encP 2 A l) (hv : storeV l = true) :
    Calls Tryz.prog 30 #[.slice A l.length c, .int .i64 p] w (FoRes (fileOf l p) w) := by
  have HS := Lib.hid hs
  have hl := storeV_len hv
  have hX := fun w h => itextOf_any A c l p w h (by omega) (storeV_sorted hv)
  have hsz : ∀ t, getT l p = some t → t.size ≤ 60 := fun t h => textV_size (getT_valid hv h).1
  clear hs
  unfold GtRes at hX
  unfold fileOf FoRes
  cases hg : getT l p with
  | none =>
    rw [hg] at hX
    have HX := Lib.hid hX
    clear hX hg hsz hv
    go_enter Tryz.func30, Tryz.ntmps30
    go_wp2_with fail
    refine (HX.out _ HS.out).mono ?_
    rintro e w1 ⟨rfl, hb⟩
    have HB := Lib.hid hb
    clear hb
    go_wp2
    go_ret2
    exact ⟨rfl, HB.out⟩
  | some t =>
    have hts := hsz t hg
    rw [hg] at hX
    have HX := Lib.hid hX
    have hRF := fun w => iReadFile_any t w (by omega)
    rw [Option.bind_some]
    unfold RdRes at hRF
    rw [show readFi (tx t) = readFi (bs t) from rfl]
    generalize readFi (bs t) = R at *
    generalize mk (R.getD []) = TT at *
    generalize R.isSome = B at *
    have HRF := Lib.hid hRF
    clear hX hg hsz hv hRF
    go_enter Tryz.func30, Tryz.ntmps30
    go_wp2_with fail
    refine (HX.out _ HS.out).mono ?_
    rintro e w1 ⟨rfl, hb⟩
    have HB := Lib.hid hb
    clear hb
    go_wp2_with (go_at_call 57; refine (HRF.out _).mono ?_; rintro e w' ⟨rfl, rfl⟩)
    go_ret2
    exact ⟨rfl, HB.out⟩
def WkRes (r : Option Int) (w : World) (e : Ending) (w' : World) : Prop := e = .returned (.tuple #[.int .i64 (r.getD (-1)), .bool r.isSome]) ∧ Below w.heap.size w w'
theorem WkRes.no {r : Option Int} (h : r = none) {w w' : World} (hb : Below w.heap.size w w') : WkRes r w (.returned (.tuple #[.int .i64 (-1), .bool false])) w' := by
  subst h; exact ⟨rfl, hb⟩
theorem WkRes.yes {r : Option Int} {p : Int} (h : r = some p) {w w' : World} (hb : Below w.heap.size w w') : WkRes r w (.returned (.tuple #[.int .i64 p, .bool true])) w' := by
  subst h; exact ⟨rfl, hb⟩
theorem pathParts_len {s : Bs} {l : List ByteArray} (h : l = ((pathP s).getD []).map mk) : l.length ≤ 3 := by
  subst h
  rw [List.length_map]
  cases hp : pathP s with
  | none => simp
  | some ps => exact (partsV_iff.1 (pathP_join hp).1).1
set_option maxHeartbeats 4000000 in
set_option maxRecDepth 100000 in
theorem iWalkTo_any (A : Option Addr) (c : Nat) (l : List Pc) (root : Int) (path : ByteArray) (w : World) (hs : Sl w encP 2 A l) (hl : l.length ≤ 16777216) (hf : FitP l) (hp : path.size ≤ 1048576) (ht : TzL w) (hm : MaxL w) :
    Calls Tryz.prog 29 #[.slice A l.length c, .int .i64 root, .string path] w (WkRes (walkTo l root (bs path)) w) := by
  have HS := Lib.hid hs
  have HT := Lib.hid ht
  have HM := Lib.hid hm
  have HP := Lib.hid (fun w h => iPathPartsS_any path w hp h)
  have hSV := fun w h => iStoreValid_any A c l w h hl hf
  clear hs ht hm
  cases hpp : pathP (bs path) with
  | none =>
    have HE := Lib.hid (walkTo_path (s := l) (root := root) hpp)
    go_enter Tryz.func29, Tryz.ntmps29
    go_wp2_with fail
    refine (HP.out _ HM.out).mono ?_
    rintro e w1 ⟨pl, PA, pc, hpl, rfl, hple, hps, hb⟩
    rw [hpp] at hpl ⊢
    have HB := Lib.hid hb
    clear hb hpl hps hSV
    simp only [Option.isSome_none]
    go_wp2
    go_ret2
    exact WkRes.no HE.out HB.out
  | some ps =>
    cases hv : storeV l
    · have HE := Lib.hid (walkTo_store (root := root) (path := bs path) hv)
      rw [hv] at hSV
      have HSV := Lib.hid hSV
      go_enter Tryz.func29, Tryz.ntmps29
      go_wp2_with fail
      refine (HP.out _ HM.out).mono ?_
      rintro e w1 ⟨pl, PA, pc, hpl, rfl, hple, hps, hb⟩
      rw [hpp] at hpl ⊢
      have HB := Lib.hid hb
      have HS1 := Lib.hid (HS.out.below hb)
      clear hb hpl hps hSV
      simp only [Option.isSome_some]
      go_wp2_with fail
      refine (HSV.out _ HS1.out).mono ?_
      rintro e w2 ⟨rfl, hb2⟩
      have HB2 := Lib.hid (Below_then HB.out hb2 (Nat.le_refl _))
      clear hb2
      go_wp2
      go_ret2
      exact WkRes.no HE.out HB2.out
    · rw [hv] at hSV
      have HSV := Lib.hid hSV
      have HV := Lib.hid hv
      have hl60 := storeV_len hv
      go_enter Tryz.func29, Tryz.ntmps29
      go_wp2_with fail
      refine (HP.out _ HM.out).mono ?_
      rintro e w1 ⟨pl, PA, pc, hpl, rfl, hple, hps, hb⟩
      have hp3 := pathParts_len hpl
      rw [hpp] at hpl ⊢
      have HE := Lib.hid (walkTo_yes (root := root) hv hpp hpl)
      have HPS := Lib.hid hps
      have HB := Lib.hid hb
      have HS1 := Lib.hid (HS.out.below hb)
      have HT1 := Lib.hid (HT.out.below hb)
      have HM1 := Lib.hid (HM.out.below hb)
      clear hb hpl hps hSV hpp hv hple
      simp only [Option.isSome_some]
      go_wp2_with fail
      refine (HSV.out _ HS1.out).mono ?_
      rintro e w2 ⟨rfl, hb2⟩
      have HB2 := Lib.hid (Below_then HB.out hb2 (Nat.le_refl _))
      have HPS2 := Lib.hid (HPS.out.below hb2)
      have HS2 := Lib.hid (HS1.out.below hb2)
      have HT2 := Lib.hid (HT1.out.below hb2)
      have HM2 := Lib.hid (HM1.out.below hb2)
      clear hb2
      go_wp2_with fail
      go_loopw [10, 34] (fun va vi wr => ∃ (k : Nat) (at_ : Int), k ≤ pl.length ∧ va = .int .i64 at_ ∧ vi = .int .i64 k ∧ Hid (walkTo l root (bs path) = walkB l at_ (pl.drop k)) ∧ Hid (Below w2.heap.size w2 wr)) (fun _ vi _ => pl.length - (intOf vi).toNat)
      case atStart => exact ⟨0, root, Nat.zero_le _, rfl, rfl, HE.out, Below.refl _ _⟩
      case round =>
        obtain ⟨k, at_, hk, rfl, rfl, HW, HBW⟩ := hrel
        have HBA := Lib.hid (Below_then HB2.out HBW.out (Nat.le_refl _))
        have HSW := Lib.hid (HS2.out.below HBW.out)
        by_cases hlt : k < pl.length
        · obtain ⟨b, o, rfl, hc⟩ := (HPS2.out.below HBW.out).getS hlt
          have hFO := fun w h h2 h3 => ifolderOf_any A c l at_ w h HV.out h2 h3
          unfold RfRes at hFO
          cases hfo : folderOf l at_ with
          | none =>
            have HE2 := Lib.hid (HW.out.trans (walkB_none hlt hfo))
            rw [hfo] at hFO
            have HFO := Lib.hid hFO
            clear hFO hfo
            generalize pl[k] = nm at *
            go_wp2_with fail
            refine (HFO.out _ HSW.out (HT2.out.below HBW.out) (HM2.out.below HBW.out)).mono ?_
            rintro e w3 ⟨v3, rfl, hown3, hb3⟩
            have HB3 := Lib.hid (Below_then HBA.out hb3 (Nat.le_refl _))
            clear hown3 hb3
            go_wp2
            go_ret2
            exact WkRes.no HE2.out HB3.out
          | some en =>
            have hen3 : en.length ≤ 3 := entsV_len (folder_valid hfo)
            have hso : SortE en := entsV_sorted (folder_valid hfo)
            rw [hfo] at hFO
            have HFO := Lib.hid hFO
            have hPN := fun A c w h => printNamed_any A c en pl[k] w h (by omega) hso
            unfold PnRes at hPN
            cases hge : getE en (tx pl[k]) with
            | none =>
              have HE2 := Lib.hid (HW.out.trans (walkB_miss hlt hfo hge))
              rw [hge] at hPN
              have HPN := Lib.hid hPN
              clear hFO hfo hge hPN hso
              generalize pl[k] = nm at *
              go_wp2_with fail
              refine (HFO.out _ HSW.out (HT2.out.below HBW.out) (HM2.out.below HBW.out)).mono ?_
              rintro e w3 ⟨v3, rfl, hown3, hb3⟩
              obtain ⟨A3, c3, rfl, _, hs3, _⟩ := hown3.sl
              have HX3 := Lib.hid hs3
              have HB3 := Lib.hid (Below_then HBA.out hb3 (Nat.le_refl _))
              clear hown3 hb3 hs3
              go_wp2_with fail
              refine (HPN.out _ _ _ HX3.out).mono ?_
              rintro e w4 ⟨rfl, hb4⟩
              have HB4 := Lib.hid (Below_then HB3.out hb4 (Nat.le_refl _))
              clear hb4
              go_wp2
              go_ret2
              exact WkRes.no HE2.out HB4.out
            | some q =>
              have HE2 := Lib.hid (HW.out.trans (walkB_next hlt hfo hge))
              rw [hge] at hPN
              have HPN := Lib.hid hPN
              clear hFO hfo hge hPN hso
              generalize pl[k] = nm at *
              go_wp2_with fail
              refine (HFO.out _ HSW.out (HT2.out.below HBW.out) (HM2.out.below HBW.out)).mono ?_
              rintro e w3 ⟨v3, rfl, hown3, hb3⟩
              obtain ⟨A3, c3, rfl, _, hs3, _⟩ := hown3.sl
              have HX3 := Lib.hid hs3
              have HB3 := Lib.hid (Below_then HBW.out hb3 (Nat.le_refl _))
              clear hown3 hb3 hs3
              go_wp2_with fail
              refine (HPN.out _ _ _ HX3.out).mono ?_
              rintro e w4 ⟨rfl, hb4⟩
              have HB4 := Lib.hid (Below_then HB3.out hb4 (Nat.le_refl _))
              clear hb4
              go_wp2
              go_roundw
              case rel => exact ⟨k + 1, q, by omega, rfl, by go_num, HE2.out, HB4.out⟩
              case measure => simp [intOf]; omega
        · have hX := fun w h => itextOf_any A c l at_ w h (by omega) (storeV_sorted HV.out)
          unfold GtRes at hX
          have hE2 := HW.out.trans (walkB_end (by omega))
          cases hg : getT l at_ with
          | none =>
            rw [hg] at hX hE2
            have HX := Lib.hid hX
            have HE2 := Lib.hid (show walkTo l root (bs path) = none from hE2)
            clear hX hE2 hg
            go_wp2_with fail
            refine (HX.out _ HSW.out).mono ?_
            rintro e w3 ⟨rfl, hb3⟩
            have HB3 := Lib.hid (Below_then HBA.out hb3 (Nat.le_refl _))
            clear hb3
            go_wp2
            go_ret2
            exact WkRes.no HE2.out HB3.out
          | some t =>
            rw [hg] at hX hE2
            have HX := Lib.hid hX
            have HE2 := Lib.hid (show walkTo l root (bs path) = some at_ from hE2)
            clear hX hE2 hg
            go_wp2_with fail
            refine (HX.out _ HSW.out).mono ?_
            rintro e w3 ⟨rfl, hb3⟩
            have HB3 := Lib.hid (Below_then HBA.out hb3 (Nat.le_refl _))
            clear hb3
            go_wp2
            go_ret2
            exact WkRes.yes HE2.out HB3.out
theorem walkTo_store_yes {s : List Pc} {root p : Int} {path : Bs} (h : walkTo s root path = some p) : storeV s = true := by
  cases hv : storeV s
  · rw [walkTo_store hv] at h; cases h
  · rfl
set_option maxHeartbeats 4000000 in
set_option maxRecDepth 100000 in
theorem iReadAt_any (A : Option Addr) (c : Nat) (l : List Pc) (root : Int) (path : ByteArray) (w : World) (hs : Sl w encP 2 A l) (hl : l.length ≤ 16777216) (hf : FitP l) (hp : path.size ≤ 1048576) (ht : TzL w) (hm : MaxL w) :
    Calls Tryz.prog 13 #[.slice A l.length c, .int .i64 root, .string path] w (FoRes (readAt l root (bs path)) w) := by
  have HS := Lib.hid hs
  have HT := Lib.hid ht
  have HM := Lib.hid hm
  have hW := fun w h h2 h3 => iWalkTo_any A c l root path w h hl hf hp h2 h3
  clear hs ht hm
  unfold WkRes at hW
  unfold readAt
  cases hw : walkTo l root (bs path) with
  | none =>
    rw [hw] at hW
    have HW := Lib.hid hW
    clear hW hw
    unfold FoRes
    go_enter Tryz.func13, Tryz.ntmps13
    go_wp2_with fail
    refine (HW.out _ HS.out HT.out HM.out).mono ?_
    rintro e w1 ⟨rfl, hb⟩
    have HB := Lib.hid hb
    clear hb
    go_wp2
    go_ret2
    exact ⟨rfl, HB.out⟩
  | some q =>
    have hFO := fun w h => ifileOf_any A c l q w h (walkTo_store_yes hw)
    rw [hw] at hW
    have HW := Lib.hid hW
    rw [Option.bind_some]
    unfold FoRes at hFO ⊢
    generalize fileOf l q = R at *
    generalize mk (R.getD []) = TT at *
    generalize R.isSome = B at *
    have HFO := Lib.hid hFO
    clear hW hw hFO
    go_enter Tryz.func13, Tryz.ntmps13
    go_wp2_with fail
    refine (HW.out _ HS.out HT.out HM.out).mono ?_
    rintro e w1 ⟨rfl, hb⟩
    have HB := Lib.hid hb
    have HS1 := Lib.hid (HS.out.below hb)
    clear hb
    go_wp2_with fail
    refine (HFO.out _ HS1.out).mono ?_
    rintro e w2 ⟨rfl, hb2⟩
    have HB2 := Lib.hid (Below_then HB.out hb2 (Nat.le_refl _))
    clear hb2
    go_wp2
    go_ret2
    exact ⟨rfl, HB2.out⟩
end Go.Proofs.YtokelopllbaikaaGreatDoor

/- Walks by names, the reference's: GetText, l9Walk, WalkTo, ReadAt. -/
set_option linter.unusedVariables false
namespace Go.Proofs.YtokelopllbaikaaGreatDoor
open Go.RowKit
set_option maxHeartbeats 1000000 in
set_option maxRecDepth 100000 in
theorem sGetText_any (A : Option Addr) (c : Nat) (l : List Pc) (p : Int) (w : World) (hs : Sl w encP 2 A l) (hl : l.length ≤ 16777216) (hf : FitP l) :
    Calls Tryz.prog 34 #[.slice A l.length c, .int .i64 p] w (GtRes (if storeV l then getT l p else none) w) := by
  have HS := Lib.hid hs
  have hSV := fun w h => sStoreValid_any A c l w h hl hf
  have hG := fun w h => sl4Get_any A c l p w h hl
  unfold GtRes
  clear hs
  cases hv : storeV l
  · rw [hv] at hSV
    have HSV := Lib.hid hSV
    clear hSV hG hv
    go_enter Tryz.func34, Tryz.ntmps34
    go_wp2_with fail
    refine (HSV.out _ HS.out).mono ?_
    rintro e w1 ⟨rfl, hb⟩
    have HB := Lib.hid hb
    clear hb
    go_wp2
    go_ret2
    exact ⟨rfl, HB.out⟩
  · rw [hv] at hSV
    rw [if_pos rfl]
    generalize getT l p = R at *
    generalize R.getD ⟨#[]⟩ = TT at *
    generalize R.isSome = B at *
    have HSV := Lib.hid hSV
    have HG := Lib.hid hG
    clear hSV hv hG
    go_enter Tryz.func34, Tryz.ntmps34
    go_wp2_with fail
    refine (HSV.out _ HS.out).mono ?_
    rintro e w1 ⟨rfl, hb⟩
    have HB := Lib.hid hb
    have HS1 := Lib.hid (HS.out.below hb)
    clear hb
    go_wp2_with (go_at_call 60; refine (HG.out _ HS1.out).mono ?_; rintro e w' ⟨rfl, rfl⟩)
    go_ret2
    exact ⟨rfl, HB.out⟩
def folT (t : ByteArray) : List En := (readF (bs t)).getD []
theorem folT_of {l : List Pc} {p : Int} : folT ((getT l p).getD ⟨#[]⟩) = (folderOf l p).getD [] := by
  unfold folT folderOf
  cases getT l p with
  | none => rfl
  | some t => rfl
theorem folT_some {l : List Pc} {p : Int} : (readF (bs ((getT l p).getD ⟨#[]⟩))).isSome = (folderOf l p).isSome := by
  unfold folderOf
  cases getT l p with
  | none => rfl
  | some t => rfl
theorem getT_size {l : List Pc} (hv : storeV l = true) {p : Int} : ((getT l p).getD ⟨#[]⟩).size ≤ 1048576 := by
  cases hg : getT l p with
  | none => decide
  | some t => exact Nat.le_trans (textV_size (getT_valid hv hg).1) (by omega)
theorem walkB_none2 {s : List Pc} {p : Int} {l : List ByteArray} {k : Nat} (hk : k < l.length) (h : getE ((folderOf s p).getD []) (tx l[k]) = none) : walkB s p (l.drop k) = none := by
  cases hf : folderOf s p with
  | none => exact walkB_none hk hf
  | some e => rw [hf] at h; exact walkB_miss hk hf h
theorem walkB_next2 {s : List Pc} {p q : Int} {l : List ByteArray} {k : Nat} (hk : k < l.length) (h : getE ((folderOf s p).getD []) (tx l[k]) = some q) : walkB s p (l.drop k) = walkB s q (l.drop (k + 1)) := by
  cases hf : folderOf s p with
  | none => rw [hf] at h; cases h
  | some e => rw [hf] at h; exact walkB_next hk hf h
set_option maxHeartbeats 4000000 in
set_option maxRecDepth 100000 in
theorem sl9Walk_any (A PA : Option Addr) (c pc : Nat) (l : List Pc) (pl : List ByteArray) (root : Int) (w : World) (hs : Sl w encP 2 A l) (hps : Sl w encS 1 PA pl) (hv : storeV l = true) (hp : pl.length ≤ 3) :
    Calls Tryz.prog 64 #[.slice A l.length c, .int .i64 root, .slice PA pl.length pc] w (WkRes (walkB l root (pl.drop 0)) w) := by
  have HS2 := Lib.hid hs
  have HPS2 := Lib.hid hps
  have HF := Lib.hid hv
  have hl : l.length ≤ 16777216 := by have := storeV_len hv; omega
  have HG := Lib.hid (fun p w h => sl4Get_any A c l p w h hl)
  generalize hE : walkB l root (pl.drop 0) = R
  have HE := Lib.hid hE.symm
  clear hs hps hv hE
  go_enter Tryz.func64, Tryz.ntmps64
  go_wp2_with fail
  go_loopw [1, 8] (fun va vi wr => ∃ (k : Nat) (at_ : Int), k ≤ pl.length ∧ va = .int .i64 at_ ∧ vi = .int .i64 k ∧ Hid (R = walkB l at_ (pl.drop k)) ∧ Hid (Below w.heap.size w wr)) (fun _ vi _ => pl.length - (intOf vi).toNat)
  case atStart => exact ⟨0, root, Nat.zero_le _, rfl, rfl, HE.out, Below.refl _ _⟩
  case round =>
    obtain ⟨k, at_, hk, rfl, rfl, HW, HBW⟩ := hrel
    have HSW := Lib.hid (HS2.out.below HBW.out)
    have HPW := Lib.hid (HPS2.out.below HBW.out)
    have hGA := HG.out at_
    by_cases hlt : k < pl.length
    · obtain ⟨bp, op, rfl, hc⟩ := HPW.out.getS hlt
      have hsz := getT_size HF.out (p := at_)
      have hRF := fun w => sReadFolder_any ((getT l at_).getD ⟨#[]⟩) w hsz
      have HNO := Lib.hid (fun h => HW.out.trans (walkB_none2 (s := l) (p := at_) hlt h))
      have HYES := Lib.hid (fun q h => HW.out.trans (walkB_next2 (q := q) (s := l) (p := at_) hlt h))
      have hFT := folT_of (l := l) (p := at_)
      have hen3 : ((folderOf l at_).getD []).length ≤ 3 := folder_len
      have hSome := folT_some (l := l) (p := at_)
      have hcase : (folderOf l at_).isSome = true ∨ ((folderOf l at_).isSome = false ∧ ((folderOf l at_).getD []) = []) := by
        cases folderOf l at_ with
        | none => exact .inr ⟨rfl, rfl⟩
        | some e => exact .inl rfl
      unfold RfRes at hRF
      unfold folT at hFT
      rw [hFT, hSome] at hRF
      generalize (folderOf l at_).getD [] = en at *
      generalize (folderOf l at_).isSome = okf at *
      generalize (getT l at_).getD ⟨#[]⟩ = TT at *
      generalize (getT l at_).isSome = okg at *
      have HRF := Lib.hid hRF
      have HGA := Lib.hid hGA
      clear hRF hGA hFT hSome hsz
      generalize pl[k] = nm at *
      go_wp2_with (go_at_call 60; refine (HGA.out _ HSW.out).mono ?_; rintro e w' ⟨rfl, rfl⟩)
      refine (HRF.out _).mono ?_
      rintro e w3 ⟨v3, rfl, hown3, hb3⟩
      obtain ⟨A3, c3, rfl, _, hs3, _⟩ := hown3.sl
      have HX3 := Lib.hid hs3
      have HB3 := Lib.hid (Below_then HBW.out hb3 (Nat.le_refl _))
      have hc3 := Below_cells hb3 _ _ _ hc
      clear hown3 hb3 hs3
      go_wp2_with fail
      go_loopw [1, 13, 14] (fun va vf vj wr => ∃ (j : Nat), j ≤ en.length ∧ va = .int .i64 at_ ∧ vf = .bool false ∧ vj = .int .i64 j ∧ Hid (∀ i (h : i < en.length), i < j → tx en[i].1 ≠ tx nm) ∧ Hid (Below w3.heap.size w3 wr)) (fun _ _ vj _ => en.length - (intOf vj).toNat)
      case atStart => exact ⟨0, Nat.zero_le _, rfl, rfl, rfl, fun i h h2 => by omega, Below.refl _ _⟩
      case round =>
        obtain ⟨j, hj, rfl, rfl, rfl, HJ, HBJ⟩ := hrel
        have HB4 := Lib.hid (Below_then HB3.out HBJ.out (Nat.le_refl _))
        have hd := Below_cells HBJ.out _ _ _ hc3
        by_cases hjl : j < en.length
        · obtain rfl : okf = true := by
            rcases hcase with h | ⟨_, h⟩
            · exact h
            · rw [h] at hjl; exact absurd hjl (by simp)
          obtain ⟨b2, o2, rfl, hy0, hy1⟩ := (HX3.out.below HBJ.out).getE hjl
          have hkl : (k : Int) < (pl.length : Int) := by omega
          have hjl' : (j : Int) < (en.length : Int) := by omega
          cases heq : (en[j].1.toList == nm.toList)
          · have hne : tx en[j].1 ≠ tx nm := by rw [eq_tlx] at heq; exact beq_eq_false_iff_ne.1 heq
            have HNX := Lib.hid (show ∀ i (h : i < en.length), i < j + 1 → tx en[i].1 ≠ tx nm from fun i h h2 => by
              by_cases e : i = j
              · subst e; exact hne
              · exact HJ.out i h (by omega))
            clear hne
            generalize en[j] = q at *
            obtain ⟨t, a⟩ := q
            simp only at *
            go_wp2_with fail
            go_quiet (fail)
            all_goals
              go_wp2
              go_round
              case rel => exact ⟨j + 1, by omega, rfl, rfl, by go_num, HNX.out, Below_drewN HBJ.out _⟩
              case measure => simp [intOf]; omega
          · have he : tx en[j].1 = tx nm := by rw [eq_tlx] at heq; exact beq_iff_eq.1 heq
            have HR := Lib.hid (HYES.out _ (getE_find hjl HJ.out he))
            clear he
            generalize en[j] = q at *
            obtain ⟨t, a⟩ := q
            simp only at *
            go_wp2_with fail
            go_quiet (fail)
            all_goals
              go_wp2
              go_roundw
              case rel => exact ⟨k + 1, a, by omega, rfl, by go_num, HR.out, Below_drewN HB4.out _⟩
              case measure => simp [intOf]; omega
        · have hjk : ¬ (j : Int) < (en.length : Int) := by omega
          have HR := Lib.hid (HNO.out (getE_end fun i h => HJ.out i h (by omega)))
          go_wp2
          go_ret2
          exact WkRes.no HR.out HB4.out
    · have hE2 := HW.out.trans (walkB_end (by omega))
      cases hg : getT l at_ with
      | none =>
        rw [hg] at hGA hE2
        have HGA := Lib.hid hGA
        have HE2 := Lib.hid (show R = none from hE2)
        clear hGA hE2 hg
        go_wp2_with (go_at_call 60; refine (HGA.out _ HSW.out).mono ?_; rintro e w' ⟨rfl, rfl⟩)
        go_ret2
        exact WkRes.no HE2.out HBW.out
      | some t =>
        rw [hg] at hGA hE2
        have HGA := Lib.hid hGA
        have HE2 := Lib.hid (show R = some at_ from hE2)
        clear hGA hE2 hg
        go_wp2_with (go_at_call 60; refine (HGA.out _ HSW.out).mono ?_; rintro e w' ⟨rfl, rfl⟩)
        go_ret2
        exact WkRes.yes HE2.out HBW.out
set_option maxHeartbeats 4000000 in
set_option maxRecDepth 100000 in
theorem sWalkTo_any (A : Option Addr) (c : Nat) (l : List Pc) (root : Int) (path : ByteArray) (w : World) (hs : Sl w encP 2 A l) (hl : l.length ≤ 16777216) (hf : FitP l) (hp : path.size ≤ 1048576) :
    Calls Tryz.prog 33 #[.slice A l.length c, .int .i64 root, .string path] w (WkRes (walkTo l root (bs path)) w) := by
  have HS := Lib.hid hs
  have hP := fun w => sPathParts_any path w hp
  unfold PathR at hP
  have hSV := fun w h => sStoreValid_any A c l w h hl hf
  clear hs
  cases hpp : pathP (bs path) with
  | none =>
    have HE := Lib.hid (walkTo_path (s := l) (root := root) hpp)
    rw [hpp] at hP
    have HP := Lib.hid hP
    clear hP hSV hpp
    go_enter Tryz.func33, Tryz.ntmps33
    go_wp2_with fail
    refine (HP.out _).mono ?_
    rintro e w1 ⟨v1, rfl, hown, hb⟩
    have HB := Lib.hid hb
    clear hb hown
    simp only [Option.isSome_none]
    go_wp2
    go_ret2
    exact WkRes.no HE.out HB.out
  | some ps =>
    have hp3 : (ps.map mk).length ≤ 3 := by rw [List.length_map]; exact (partsV_iff.1 (pathP_join hpp).1).1
    rw [hpp] at hP
    rw [show (some ps).getD [] = ps from rfl] at hP
    cases hv : storeV l
    · have HE := Lib.hid (walkTo_store (root := root) (path := bs path) hv)
      rw [hv] at hSV
      have HSV := Lib.hid hSV
      have HP := Lib.hid hP
      clear hP hSV hpp hv
      go_enter Tryz.func33, Tryz.ntmps33
      go_wp2_with fail
      refine (HP.out _).mono ?_
      rintro e w1 ⟨v1, rfl, hown, hb⟩
      have HB := Lib.hid hb
      have HS1 := Lib.hid (HS.out.below hb)
      clear hb hown
      simp only [Option.isSome_some]
      go_wp2_with fail
      refine (HSV.out _ HS1.out).mono ?_
      rintro e w2 ⟨rfl, hb2⟩
      have HB2 := Lib.hid (Below_then HB.out hb2 (Nat.le_refl _))
      clear hb2
      go_wp2
      go_ret2
      exact WkRes.no HE.out HB2.out
    · rw [hv] at hSV
      have HE := Lib.hid (walkTo_yes (root := root) hv hpp rfl)
      have HV := Lib.hid hv
      have HSV := Lib.hid hSV
      have HP := Lib.hid hP
      clear hP hSV hpp
      generalize ps.map mk = pl at *
      have HN := Lib.hid (fun PA pc w h h2 => sl9Walk_any A PA c pc l pl root w h h2 HV.out hp3)
      unfold WkRes at HN ⊢
      rw [HE.out]
      generalize walkB l root (pl.drop 0) = R at *
      generalize R.getD (-1) = RV at *
      generalize R.isSome = RB at *
      clear HE hv
      go_enter Tryz.func33, Tryz.ntmps33
      go_wp2_with fail
      refine (HP.out _).mono ?_
      rintro e w1 ⟨v1, rfl, hown, hb⟩
      obtain ⟨PA, pc, rfl, _, hps, _⟩ := hown.sl
      have HPS := Lib.hid hps
      have HB := Lib.hid hb
      have HS1 := Lib.hid (HS.out.below hb)
      clear hb hown hps
      simp only [Option.isSome_some]
      go_wp2_with fail
      refine (HSV.out _ HS1.out).mono ?_
      rintro e w2 ⟨rfl, hb2⟩
      have HB2 := Lib.hid (Below_then HB.out hb2 (Nat.le_refl _))
      have HS2 := Lib.hid (HS1.out.below hb2)
      have HPS2 := Lib.hid (HPS.out.below hb2)
      clear hb2
      go_wp2_with fail
      refine (HN.out _ _ _ HS2.out HPS2.out).mono ?_
      rintro e w3 ⟨rfl, hb3⟩
      have HB3 := Lib.hid (Below_then HB2.out hb3 (Nat.le_refl _))
      clear hb3
      go_wp2
      go_ret2
      exact ⟨rfl, HB3.out⟩
set_option maxHeartbeats 4000000 in
set_option maxRecDepth 100000 in
theorem sReadAt_any (A : Option Addr) (c : Nat) (l : List Pc) (root : Int) (path : ByteArray) (w : World) (hs : Sl w encP 2 A l) (hl : l.length ≤ 16777216) (hf : FitP l) (hp : path.size ≤ 1048576) :
    Calls Tryz.prog 15 #[.slice A l.length c, .int .i64 root, .string path] w (FoRes (readAt l root (bs path)) w) := by
  have HS := Lib.hid hs
  have hW := fun w h => sWalkTo_any A c l root path w h hl hf hp
  have hG := fun p w h => sGetText_any A c l p w h hl hf
  clear hs
  unfold WkRes at hW
  unfold GtRes at hG
  unfold readAt
  cases hw : walkTo l root (bs path) with
  | none =>
    rw [hw] at hW
    have HW := Lib.hid hW
    have HG := Lib.hid (hG (-1))
    generalize (if storeV l = true then getT l (-1) else none) = G at *
    generalize G.getD ⟨#[]⟩ = GV at *
    generalize G.isSome = GB at *
    clear hW hw hG
    unfold FoRes
    go_enter Tryz.func15, Tryz.ntmps15
    go_wp2_with fail
    refine (HW.out _ HS.out).mono ?_
    rintro e w1 ⟨rfl, hb⟩
    have HB := Lib.hid hb
    have HS1 := Lib.hid (HS.out.below hb)
    clear hb
    go_wp2_with fail
    refine (HG.out _ HS1.out).mono ?_
    rintro e w2 ⟨rfl, hb2⟩
    have HB2 := Lib.hid (Below_then HB.out hb2 (Nat.le_refl _))
    clear hb2
    go_wp2
    go_ret2
    exact ⟨rfl, HB2.out⟩
  | some q =>
    have hv := walkTo_store_yes hw
    rw [hw] at hW
    have hGQ := hG q
    rw [hv, if_pos rfl] at hGQ
    have hsz := getT_size hv (p := q)
    have hRF := fun w => sReadFile_any ((getT l q).getD ⟨#[]⟩) w (by omega)
    have hfo : readFi (bs ((getT l q).getD ⟨#[]⟩)) = fileOf l q := by
      unfold fileOf
      cases getT l q with
      | none => rfl
      | some t => rfl
    rw [hfo] at hRF
    rw [Option.bind_some]
    unfold FoRes
    unfold RdRes at hRF
    generalize (getT l q).getD ⟨#[]⟩ = GV at *
    generalize (getT l q).isSome = GB at *
    generalize fileOf l q = R at *
    generalize mk (R.getD []) = TT at *
    generalize R.isSome = B at *
    have HRF := Lib.hid hRF
    have HW := Lib.hid hW
    have HG := Lib.hid hGQ
    clear hW hw hG hGQ hRF hfo hv
    go_enter Tryz.func15, Tryz.ntmps15
    go_wp2_with fail
    refine (HW.out _ HS.out).mono ?_
    rintro e w1 ⟨rfl, hb⟩
    have HB := Lib.hid hb
    have HS1 := Lib.hid (HS.out.below hb)
    clear hb
    go_wp2_with fail
    refine (HG.out _ HS1.out).mono ?_
    rintro e w2 ⟨rfl, hb2⟩
    have HB2 := Lib.hid (Below_then HB.out hb2 (Nat.le_refl _))
    clear hb2
    go_wp2_with (go_at_call 35; refine (HRF.out _).mono ?_; rintro e w' ⟨rfl, rfl⟩)
    go_ret2
    exact ⟨rfl, HB2.out⟩
end Go.Proofs.YtokelopllbaikaaGreatDoor

/- All files below a folder, the program's: filesBelow, AllFiles. -/
set_option linter.unusedVariables false
namespace Go.Proofs.YtokelopllbaikaaGreatDoor
open Go.RowKit
set_option maxHeartbeats 2000000 in
set_option maxRecDepth 100000 in
theorem CloneS_any (A : Option Addr) (c : Nat) (l : List ByteArray) (w : World) (hs : Sl w encS 1 A l) (hcz : A = none → c = 0) (hl : l.length ≤ 16777216) :
    Calls Tryz.prog 55 #[.slice A l.length c] w (OwnRes 9 1 encS l w) := by
  have HS := Lib.hid hs
  have HC := Lib.hid hcz
  clear hs hcz
  have hnil := fun (W : World) (A : Option Addr) (n c : Nat) => Lib.run_eql_slice_nil (P := Tryz.prog) W 33 9 A n c 0 0 Tryz.underlying33
  cases A with
  | none =>
    have hm : l = [] := by
      cases l with
      | nil => rfl
      | cons y r => obtain ⟨b, o, e, _⟩ := HS.out (by simp); cases e
    subst hm
    go_enter Tryz.func55, Tryz.ntmps55
    go_wp2
    go_ret
    exact ⟨_, rfl, Own.nil, Below.refl _ _⟩
  | some ad =>
    go_enter Tryz.func55, Tryz.ntmps55
    go_wp2_with (at_builtin; refine app_strN rfl rfl (Own.made (Nat.le_refl _)) ((Below.refl _ _).alloc (Nat.le_refl _) _) (by simp; omega) (HS.out.alloc _) HC.out (by rfl) (by rfl) ?_; intro v1 w2 hown2 hb2 hg2; have HW2 := Lib.hid hown2; have HB2 := Lib.hid hb2; clear hown2 hb2 hg2)
    go_ret
    exact ⟨_, rfl, by have h := HW2.out; rwa [List.nil_append] at h, HB2.out⟩
def RowE (w : World) (g : Nat) (y : En) : Prop := w.cell? ⟨g, 0, none⟩ = some (.string y.1) ∧ w.cell? ⟨g, 1, none⟩ = some (.int .i64 y.2)
theorem RowE.new (w : World) (y : En) : RowE (w.alloc (rowE y)) w.heap.size y := ⟨new_cell rfl, new_cell rfl⟩
theorem RowE.below {w w' : World} {g : Nat} {y : En} (h : RowE w g y) (hb : Below w.heap.size w w') : RowE w' g y := ⟨Below_cells hb _ _ _ h.1, Below_cells hb _ _ _ h.2⟩
theorem StrAt.below {w w' : World} {g : Nat} {y : ByteArray} (h : StrAt w g y) (hb : Below w.heap.size w w') : StrAt w' g y := Below_cells hb _ _ _ h
theorem entOk_size {e : En} (h : entOk e = true) : e.1.size ≤ 8 := by
  have := (entOk_iff.1 h).1
  unfold wordV at this
  rw [Bool.and_eq_true, Bool.and_eq_true, decide_eq_true_eq] at this
  exact this.1.1.2
set_option maxHeartbeats 8000000 in
set_option maxRecDepth 100000 in
theorem ifilesBelow_any (A : Option Addr) (c : Nat) (l : List Pc) (hv : storeV l = true) : ∀ (f : Nat) (p : Int) (PA : Option Addr) (pc : Nat) (pl : List ByteArray) (w : World), Sl w encP 2 A l → Sl w encS 1 PA pl → (PA = none → pc = 0) → pl.length ≤ pc → pl.length + f = 3 → (∀ x ∈ pl, x.size ≤ 8) → TzL w → MaxL w →
    Calls Tryz.prog 28 #[.slice A l.length c, .int .i64 p, .slice PA pl.length pc] w (OwnRes 9 1 encS ((filesP l f p (pl.map tx)).map mk) w) := by
  intro f
  induction f with
  | zero =>
    intro p PA pc pl w _ _ _ _ hf _ _ _
    have h3 : (pl.length : Int) = 3 := by omega
    rw [show (filesP l 0 p (pl.map tx)).map mk = [] from rfl]
    go_enter Tryz.func28, Tryz.ntmps28
    go_wp2
    go_ret
    exact ⟨_, rfl, Own.nil, Below.refl _ _⟩
  | succ f ih =>
    intro p PA pc pl w hs hps hcz hple hf hsz ht hm
    have h3 : ¬ (pl.length : Int) = 3 := by omega
    have HS := Lib.hid hs
    have HPS := Lib.hid hps
    have HCZ := Lib.hid hcz
    have HSZ := Lib.hid hsz
    have HT := Lib.hid ht
    have HM := Lib.hid hm
    have HV := Lib.hid hv
    have HIH := Lib.hid ih
    have HFO := Lib.hid (fun w h h2 h3 => ifolderOf_any A c l p w h hv h2 h3)
    have hen3 : ((folderOf l p).getD []).length ≤ 3 := folder_len
    have HOK := Lib.hid (show ∀ e ∈ (folderOf l p).getD [], entOk e = true by
      cases hfo : folderOf l p with
      | none => intro e he; cases he
      | some en => intro e he; exact entsV_ok (folder_valid hfo) he)
    rw [filesP_succ]
    clear hs hps hcz hsz ht hm hv ih
    unfold RfRes at HFO
    generalize (folderOf l p).getD [] = en at *
    generalize (folderOf l p).isSome = okf at *
    have HFA := Lib.hid (show 3 ^ f * 3 ≤ 27 by
      have : f ≤ 2 := by omega
      have h := Nat.pow_le_pow_right (n := 3) (by omega) this
      omega)
    have HLA := Lib.hid (fun k => accF_len (s := l) (f := f) (ps := pl.map tx) (l := en) (k := k) hen3)
    have HLS := Lib.hid (fun e => stepF_len l f (pl.map tx) e)
    go_enter Tryz.func28, Tryz.ntmps28
    go_wp2_with fail
    refine (HFO.out _ HS.out HT.out HM.out).mono ?_
    rintro e w1 ⟨v1, rfl, hown1, hb1⟩
    obtain ⟨EA, ec, rfl, _, hes, _⟩ := hown1.sl
    have HES := Lib.hid hes
    have HB1 := Lib.hid hb1
    clear hes hown1 hb1
    go_wp2_with fail
    go_loopw [9, 26] (fun v i wr => ∃ (k : Nat), k ≤ en.length ∧ i = .int .i64 k ∧ Own wr w1.heap.size 9 1 encS v (accF l f (pl.map tx) en k) ∧ Hid (Below w1.heap.size w1 wr)) (fun _ i _ => en.length - (intOf i).toNat)
    case atStart => exact ⟨0, Nat.zero_le _, rfl, Own.nil, Below.refl _ _⟩
    case round =>
      obtain ⟨k, hk, rfl, hown, HBW⟩ := hrel
      have HBA := Lib.hid (Below_then HB1.out HBW.out (Nat.le_refl _))
      by_cases hlt : k < en.length
      · obtain ⟨b, o, rfl, hc0, hc1⟩ := (HES.out.below HBW.out).getE hlt
        have hN := accF_next (s := l) (f := f) (ps := pl.map tx) hlt
        have hok := HOK.out _ (List.getElem_mem hlt)
        have hst := HLS.out en[k]
        have hla := HLA.out k
        have hfa := HFA.out
        generalize en[k] = y at *
        have HW0 := Lib.hid hown
        have HBOX := Lib.hid (RowE.new wr y)
        have HW5 := Lib.hid (hown.alloc (rowE y))
        have HB5 := Lib.hid (HBA.out.alloc HBA.out.size (rowE y))
        have hysz := entOk_size hok
        clear hown
        obtain ⟨t, a⟩ := y
        simp only at hc0 hc1 hysz
        have HB15 := Lib.hid (HBW.out.alloc HBW.out.size (rowE (t, a)))
        have HLEN := Lib.hid (show (pl ++ [t]).length = pl.length + 1 by simp)
        have HMAP := Lib.hid (show (pl ++ [t]).map bs = pl.map tx ++ [tx t] by simp)
        have HSZ2 := Lib.hid (show ∀ x ∈ pl ++ [t], x.size ≤ 8 from fun x hx => by
          rw [List.mem_append, List.mem_singleton] at hx
          rcases hx with hx | rfl
          · exact HSZ.out x hx
          · exact hysz)
        have HL := Lib.hid (show pl.length ≤ 16777216 by omega)
        have HCL := Lib.hid (fun w h => CloneS_any PA pc pl w h HCZ.out HL.out)
        have HFI := Lib.hid (fun w h => ifileOf_any A c l a w h HV.out)
        go_wp2_with fail
        revert HBOX HW5 HB5 HB15
        generalize wr.alloc (rowE (t, a)) = w5
        intro HBOX HW5 HB5 HB15
        have HD := Lib.hid (Below.refl w5.heap.size w5).drew
        have HDa := Lib.hid (((Below.refl w5.heap.size w5).alloc (Nat.le_refl _) (rowS t)).drew)
        have HPd := Lib.hid ((HPS.out.below HB5.out).drew)
        have HPa := Lib.hid (((HPS.out.below HB5.out).alloc (rowS t)).drew)
        have HRa := Lib.hid (show StrAt (w5.alloc (rowS t)).drew w5.heap.size t from StrAt.new w5 t)
        go_region_held3 (fun w' => w'.cell? ⟨wr.heap.size, 0, none⟩ = some (.string t) ∧ w'.cell? ⟨wr.heap.size, 1, none⟩ = some (.int .i64 a))
          (first | assumption | exact HBOX.out | exact HBOX.out.below HB3.out | exact HBOX.out.below HBR.out | exact HBOX.out.below HB2.out | exact HBOX.out.below HDa.out | exact HBOX.out.below HD.out)
          ((first
            | (go_at_call 55; refine (HCL.out _ HPd.out).mono ?_; rintro e w2 ⟨v2, rfl, hown2, hb2⟩; have HW2 := Lib.hid ((hown2.mono HD.out.size).alloc (rowS t)); have HB2 := Lib.hid (Below_then HD.out hb2 (Nat.le_refl _)); have HBR := Lib.hid (HB2.out.alloc HB2.out.size (rowS t)); have HRR := Lib.hid (StrAt.new w2 t); clear hown2 hb2)
            | (go_at_call 55; refine (HCL.out _ HPa.out).mono ?_; rintro e w2 ⟨v2, rfl, hown2, hb2⟩; have HB2 := Lib.hid (Below_then HDa.out hb2 (Nat.le_refl _)); have HW2 := Lib.hid (hown2.mono HDa.out.size); have HBR := HB2; have HRR := Lib.hid (HRa.out.below hb2); clear hown2 hb2)
            | (refine step_str_d HW2.out HBR.out HRR.out HL.out (by rfl) rfl (by rfl) (by rfl) ?_; intro v3 w3 hown3 hb3; have HW3 := Lib.hid hown3; have HB3 := Lib.hid hb3; clear hown3 hb3)))
        all_goals
          obtain ⟨X, d, ev, hle3, hs3, _⟩ := HW3.out.sl
          rw [HLEN.out] at ev hle3
          subst ev
          have HX3 := Lib.hid hs3
          have HCW := Lib.hid HW3.out.cz
          have HB03 := Lib.hid (Below_then HB5.out HB3.out (Nat.le_refl _))
          have HB13 := Lib.hid (Below_then HB15.out HB3.out (Nat.le_refl _))
          have HS3 := Lib.hid (HS.out.below HB03.out)
          have HWA := Lib.hid (HW5.out.below HB3.out)
          have hk3 := HBOX.out.below HB3.out
          have hk0 := hk3.1
          have hk1 := hk3.2
          clear hs3 hk3
          have hFI := HFI.out w3 HS3.out
          unfold FoRes at hFI
          cases hfi : (fileOf l a).isSome
          · rw [hfi] at hFI
            have HN := Lib.hid (show accF l f (pl.map tx) en (k + 1) = accF l f (pl.map tx) en k ++ (filesP l f a ((pl ++ [t]).map tx)).map mk by
              rw [hN]; unfold stepF; rw [hfi, if_neg (by simp)]; rw [show (pl ++ [t]).map tx = pl.map tx ++ [tx t] from HMAP.out])
            have hfl : ((filesP l f a ((pl ++ [t]).map tx)).map mk).length ≤ 3 ^ f := by rw [List.length_map]; exact filesP_len l f a ((pl ++ [t]).map tx)
            have HFI3 := Lib.hid hFI
            have hIH := fun w h h2 h3 h4 => HIH.out a X d (pl ++ [t]) w h h2 HCW.out (by rw [HLEN.out]; exact hle3) (by rw [HLEN.out]; omega) HSZ2.out h3 h4
            rw [HLEN.out] at hIH
            generalize (filesP l f a ((pl ++ [t]).map tx)).map mk = FM at *
            have HI3 := Lib.hid hIH
            clear hFI hIH hN hfi
            generalize mk ((fileOf l a).getD []) = CT at *
            go_wp2_with fail
            refine HFI3.out.mono ?_
            rintro e w4 ⟨rfl, hb4⟩
            have HB04 := Lib.hid (Below_then HB03.out hb4 (Nat.le_refl _))
            have HB14 := Lib.hid (Below_then HB13.out hb4 (Nat.le_refl _))
            have HS4 := Lib.hid (HS.out.below HB04.out)
            have HX4 := Lib.hid (HX3.out.below hb4)
            have HWA4 := Lib.hid (HWA.out.below hb4)
            have hm1 := Below_cells hb4 _ _ _ hk1
            clear hb4 hk0 hk1
            go_wp2_with fail
            refine (HI3.out _ HS4.out HX4.out (HT.out.below HB04.out) (HM.out.below HB04.out)).mono ?_
            rintro e w5' ⟨v5, rfl, hown5, hb5⟩
            obtain ⟨X5, d5, rfl, hle5, hs5, _⟩ := hown5.sl
            have HC5 := Lib.hid hown5.cz
            have HX5 := Lib.hid hs5
            have HB05 := Lib.hid (Below_then HB04.out hb5 (Nat.le_refl _))
            have HB15 := Lib.hid (Below_then HB14.out hb5 (Nat.le_refl _))
            have HWA5 := Lib.hid (HWA4.out.below hb5)
            have hbound : (accF l f (pl.map tx) en k).length + FM.length ≤ 33554432 := by
              have : 3 ^ f ≤ 27 := by omega
              omega
            have HBD := Lib.hid hbound
            clear hown5 hs5 hb5 hm1
            go_wp2_with (at_builtin; refine app_strN (w0 := w1) rfl rfl HWA5.out HB15.out HBD.out HX5.out HC5.out (by rfl) (by rfl) ?_; intro v6 w6 hown6 hb6 hg6; have HW6 := Lib.hid hown6; have HB6 := Lib.hid hb6; clear hown6 hb6 hg6)
            go_roundw
            case rel => exact ⟨k + 1, by omega, by go_num, by rw [HN.out]; exact HW6.out, HB6.out⟩
            case measure => simp [intOf]; omega
          · rw [hfi] at hFI
            have HN := Lib.hid (show accF l f (pl.map tx) en (k + 1) = accF l f (pl.map tx) en k ++ [mk (joinP ((pl ++ [t]).map bs))] by
              rw [hN]; unfold stepF; rw [hfi, if_pos rfl, HMAP.out]; rfl)
            have HFI3 := Lib.hid hFI
            have hJ := fun w h => iJoinPath_any X d (pl ++ [t]) w h (by rw [HLEN.out]; exact hle3) (by rw [HLEN.out]; omega) (fun x hx => Nat.le_trans (HSZ2.out x hx) (by omega))
            rw [HLEN.out] at hJ
            generalize mk (joinP ((pl ++ [t]).map bs)) = JP at *
            have HJ := Lib.hid hJ
            have HBD := Lib.hid (show (accF l f (pl.map tx) en k).length ≤ 16777216 by omega)
            clear hFI hJ hN hfi
            generalize mk ((fileOf l a).getD []) = CT at *
            go_wp2_with fail
            refine HFI3.out.mono ?_
            rintro e w4 ⟨rfl, hb4⟩
            have HB04 := Lib.hid (Below_then HB03.out hb4 (Nat.le_refl _))
            have HB14 := Lib.hid (Below_then HB13.out hb4 (Nat.le_refl _))
            have HX4 := Lib.hid (HX3.out.below hb4)
            have HWA4 := Lib.hid (HWA.out.below hb4)
            clear hb4 hk0 hk1
            go_wp2_with fail
            refine (HJ.out _ HX4.out).mono ?_
            rintro e w5' ⟨rfl, hb5⟩
            have HB05 := Lib.hid (Below_then HB04.out hb5 (Nat.le_refl _))
            have HB15 := Lib.hid (Below_then HB14.out hb5 (Nat.le_refl _))
            have HWA5 := Lib.hid (HWA4.out.below hb5)
            clear hb5
            go_wp2_with (at_builtin; refine app_str (w0 := w1) rfl rfl rfl rfl HWA5.out HB15.out HBD.out ?_; intro v6 w6 hown6 hb6; have HW6 := Lib.hid hown6; have HB6 := Lib.hid hb6; clear hown6 hb6)
            go_roundw
            case rel => exact ⟨k + 1, by omega, by go_num, by rw [HN.out]; exact HW6.out, HB6.out⟩
            case measure => simp [intOf]; omega
      · have HE := Lib.hid (accF_all (s := l) (f := f) (ps := pl.map tx) (l := en) (k := k) (by omega))
        go_wp2
        go_ret
        exact ⟨_, rfl, HE.out ▸ hown.mono HB1.out.size, HBA.out⟩
set_option maxHeartbeats 2000000 in
set_option maxRecDepth 100000 in
theorem iAllFiles_any (A : Option Addr) (c : Nat) (l : List Pc) (root : Int) (w : World) (hs : Sl w encP 2 A l) (hl : l.length ≤ 16777216) (hf : FitP l) (ht : TzL w) (hm : MaxL w) :
    Calls Tryz.prog 12 #[.slice A l.length c, .int .i64 root] w (OwnRes 9 1 encS ((allF l root).map mk) w) := by
  have HS := Lib.hid hs
  have HT := Lib.hid ht
  have HM := Lib.hid hm
  have hSV := fun w h => iStoreValid_any A c l w h hl hf
  clear hs ht hm
  unfold allF
  cases hv : storeV l
  · rw [hv] at hSV
    rw [if_neg (by simp)]
    have HSV := Lib.hid hSV
    clear hSV hv
    go_enter Tryz.func12, Tryz.ntmps12
    go_wp2_with fail
    refine (HSV.out _ HS.out).mono ?_
    rintro e w1 ⟨rfl, hb⟩
    have HB := Lib.hid hb
    clear hb
    go_wp2
    go_ret
    exact ⟨_, rfl, Own.nil, HB.out⟩
  · have hFB := fun w h h2 h3 => ifilesBelow_any A c l hv 3 root none 0 [] w h Sl.none_ (fun _ => rfl) (Nat.le_refl _) rfl (by intro x hx; cases hx) h2 h3
    rw [if_pos rfl]
    rw [hv] at hSV
    rw [show ([] : List ByteArray).map tx = [] from rfl] at hFB
    generalize (filesP l 3 root []).map mk = FM at *
    have HSV := Lib.hid hSV
    have HFB := Lib.hid hFB
    clear hSV hv hFB
    go_enter Tryz.func12, Tryz.ntmps12
    go_wp2_with fail
    refine (HSV.out _ HS.out).mono ?_
    rintro e w1 ⟨rfl, hb⟩
    have HB := Lib.hid hb
    have HS1 := Lib.hid (HS.out.below hb)
    have HT1 := Lib.hid (HT.out.below hb)
    have HM1 := Lib.hid (HM.out.below hb)
    clear hb
    go_wp2_with fail
    refine (HFB.out _ HS1.out HT1.out HM1.out).mono ?_
    rintro e w2 ⟨v2, rfl, hown2, hb2⟩
    have HW2 := Lib.hid (hown2.mono HB.out.size)
    have HB2 := Lib.hid (Below_then HB.out hb2 (Nat.le_refl _))
    clear hown2 hb2
    go_wp2
    go_ret
    exact ⟨_, rfl, HW2.out, HB2.out⟩
end Go.Proofs.YtokelopllbaikaaGreatDoor

/- DropEntry of the reference. -/
set_option linter.unusedVariables false
namespace Go.Proofs.YtokelopllbaikaaGreatDoor
open Go.RowKit
/-- A list of entries and whether it was possible. -/
def EnRes (r : List En × Bool) (w : World) (e : Ending) (w' : World) : Prop :=
  ∃ v, e = .returned (.tuple #[v, .bool r.2]) ∧ Own w' w.heap.size 70 2 encE v r.1 ∧ Below w.heap.size w w'
def dropQ (n : Bs) (l : List En) : List En := l.filter fun x => !(tx x.1 == n)
theorem dropQ_next {n : Bs} {l : List En} {k : Nat} (h : k < l.length) : dropQ n (l.take (k + 1)) = dropQ n (l.take k) ++ if (tx l[k].1 == n) then [] else [l[k]] := by
  unfold dropQ
  rw [List.take_succ_eq_append_getElem h, List.filter_append]
  cases hp : (tx l[k].1 == n) <;> simp [hp]
theorem dropQ_len (n : Bs) (l : List En) : (dropQ n l).length ≤ l.length := List.length_filter_le _ _
set_option maxHeartbeats 4000000 in
set_option maxRecDepth 100000 in
theorem sDropEntry_any (A : Option Addr) (c : Nat) (l : List En) (n : ByteArray) (w : World) (hs : Sl w encE 2 A l) (hv : entsV l = true) :
    Calls Tryz.prog 138 #[.slice A l.length c, .string n] w (EnRes (dropE l (bs n)) w) := by
  have HS := Lib.hid hs
  have HB := Lib.hid ((Below.refl w.heap.size w).alloc (Nat.le_refl _) madeEn)
  have HW := Lib.hid (Own.made (enc := encE) (E := 70) (size := 2) (Nat.le_refl w.heap.size))
  have hl3 := entsV_len hv
  have hEV := fun w h => sEntriesValid_any A c l w h (by omega) (fitE_valid hv)
  rw [hv] at hEV
  have HEV := Lib.hid hEV
  have E1 : Hid ((dropE l (bs n)).1 = dropQ (bs n) l) := dropE_filter hv (bs n)
  have E2 := Lib.hid (show decide ((dropQ (bs n) l).length < l.length) = (dropE l (bs n)).2 by
    rw [dropE_ok hv, ← dropE_lt hv (bs n), show (dropE l (bs n)).1 = dropQ (bs n) l from dropE_filter hv (bs n)])
  have HLQ := Lib.hid (fun k => dropQ_len (bs n) (l.take k))
  clear hEV hs
  generalize dropE l (bs n) = R at *
  unfold EnRes
  go_enter Tryz.func138, Tryz.ntmps138
  go_wp2_with fail
  go_loopw [6, 7] (fun v i wr => ∃ (k : Nat), k ≤ l.length ∧ i = .int .i64 k ∧ Own wr w.heap.size 70 2 encE v (dropQ (bs n) (l.take k)) ∧ Hid (Below w.heap.size w wr)) (fun _ i _ => l.length - (intOf i).toNat)
  case atStart => exact ⟨0, Nat.zero_le _, rfl, HW.out, HB.out⟩
  case round =>
    obtain ⟨k, hk, rfl, hown, HBW⟩ := hrel
    have HWW := Lib.hid hown
    clear hown
    by_cases hlt : k < l.length
    · have hlt' : (k : Int) < (l.length : Int) := by omega
      obtain ⟨b, o, hA, _, _⟩ := (HS.out.below HBW.out).getE hlt
      subst hA
      have HN := Lib.hid (dropQ_next (n := bs n) hlt)
      have hla := HLQ.out k
      have hla2 : (dropQ (bs n) (l.take k)).length ≤ 16777216 := by rw [List.length_take] at hla; omega
      go_wp2_with fail
      refine (HEV.out _ (HS.out.below HBW.out)).mono ?_
      rintro e w3 ⟨rfl, hb⟩
      replace HBW := Lib.hid (Below_then HBW.out hb (Nat.le_refl _))
      replace HWW := Lib.hid (HWW.out.below hb)
      clear hb
      obtain ⟨b2, o2, e2, hc0, hc1⟩ := (HS.out.below HBW.out).getE hlt
      injection e2 with e2; injection e2 with e3 e4
      subst e3 e4
      generalize l[k] = y at *
      obtain ⟨t, a⟩ := y
      simp only at hc0 hc1
      cases hq : (t.toList == n.toList)
      · have hne : (tx t == bs n) = false := by rw [eq_tlx] at hq; exact hq
        have HN2 := Lib.hid (show dropQ (bs n) (l.take (k + 1)) = dropQ (bs n) (l.take k) ++ [(t, a)] by rw [HN.out]; show _ ++ (if (tx t == bs n) = true then _ else _) = _; rw [hne]; rfl)
        clear hne HN
        go_wp2_with (at_builtin; refine app_en (w0 := w) (base := w.heap.size) (y := (t, a)) rfl rfl rfl rfl HWW.out HBW.out (Nat.le_refl _) HBW.out.size hla2 ?_; intro v1 w6 hown6 hb6; have HW6 := Lib.hid hown6; have HB6 := Lib.hid hb6; clear hown6 hb6)
        go_roundw
        case rel => exact ⟨k + 1, by omega, by go_num, by rw [HN2.out]; exact HW6.out, HB6.out⟩
        case measure => simp [intOf]; omega
      · have hne : (tx t == bs n) = true := by rw [eq_tlx] at hq; exact hq
        have HN2 := Lib.hid (show dropQ (bs n) (l.take (k + 1)) = dropQ (bs n) (l.take k) by rw [HN.out]; show _ ++ (if (tx t == bs n) = true then _ else _) = _; rw [hne]; simp)
        clear hne HN
        go_wp2
        go_roundw
        case rel => exact ⟨k + 1, by omega, by go_num, by rw [HN2.out]; exact HWW.out, HBW.out⟩
        case measure => simp [intOf]; omega
    · have hlt' : ¬ (k : Int) < (l.length : Int) := by omega
      have HE := Lib.hid (show l.take k = l from List.take_of_length_le (by omega))
      rw [HE.out] at HWW
      obtain ⟨X, d, e6, hle6, hs6, _⟩ := HWW.out.sl
      subst e6
      go_wp2_with fail
      refine (HEV.out _ (HS.out.below HBW.out)).mono ?_
      rintro e w3 ⟨rfl, hb⟩
      replace HBW := Lib.hid (Below_then HBW.out hb (Nat.le_refl _))
      replace HWW := Lib.hid (HWW.out.below hb)
      clear hb hs6
      by_cases hlq : (dropQ (bs n) l).length < l.length
      · have hlq' : ((dropQ (bs n) l).length : Int) < (l.length : Int) := by omega
        have HR2 := Lib.hid (show R.2 = true by rw [← E2.out]; exact decide_eq_true hlq)
        go_wp2
        go_ret2
        rw [HR2.out, E1.out]
        exact ⟨_, rfl, HWW.out, HBW.out⟩
      · have hlq' : ¬ ((dropQ (bs n) l).length : Int) < (l.length : Int) := by omega
        have HR2 := Lib.hid (show R.2 = false by rw [← E2.out]; exact decide_eq_false hlq)
        go_wp2
        go_ret2
        rw [HR2.out, E1.out]
        exact ⟨_, rfl, HWW.out, HBW.out⟩
end Go.Proofs.YtokelopllbaikaaGreatDoor
