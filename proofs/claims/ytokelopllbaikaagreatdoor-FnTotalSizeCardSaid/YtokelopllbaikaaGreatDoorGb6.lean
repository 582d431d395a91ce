/- Texts in one: Rf, Rg, S0, Dv. -/
import Derived.Test.YtokelopllbaikaaGreatDoorGb4
import Derived.Test.YtokelopllbaikaaGreatDoorGa2
import Derived.Test.YtokelopllbaikaaGreatDoorGa9
import Derived.Test.YtokelopllbaikaaGreatDoorGb2
import Derived.Test.YtokelopllbaikaaGreatDoorGc2
import Derived.Test.YtokelopllbaikaaGreatDoorGa7
/- What a reader of folders has come to, in plain Lean. No program in sight. -/
set_option linter.unusedVariables false
namespace Go.Proofs.YtokelopllbaikaaGreatDoor
--BEGIN
/-- 'acc' is read, 'rest' is left: so it is with each folder whose text is s. -/
def FC (s : Bs) (acc : List En) (rest : Bs) : Prop := ∀ l, entsV l = true → foldB l = s → ∃ m, l = acc ++ m ∧ rest = m.flatMap entT
theorem FC.start (s : Bs) : FC s [] (s.drop 1) := fun l _ h => ⟨l, rfl, by rw [← h]; rfl⟩
theorem headC_stop {c : UInt8} {a b : Bs} (h : ∀ x ∈ a, x ≠ c) : headC c (a ++ c :: b) = a := takeWhile_stop (fun x hx => by simpa using h x hx) (by simp)
theorem cutC_stop {c : UInt8} {a b : Bs} (h : ∀ x ∈ a, x ≠ c) : cutC c (a ++ c :: b) = some (a, b) := by
  unfold cutC
  rw [headC_stop h, if_pos (by simp), drop_past]
theorem ent_cut {e : En} (h : entOk e = true) (r : Bs) : cutC 59 (entT e ++ r) = some (tx e.1 ++ 61 :: hexT e.2, r) ∧ cutC 61 (tx e.1 ++ 61 :: hexT e.2) = some (tx e.1, hexT e.2) := by
  have h1 : ∀ x ∈ tx e.1, x ≠ 61 ∧ x ≠ 59 := fun x hx => by
    have := range_ne (word_range (word_chars (entOk_iff.1 h).1 x hx)); exact ⟨this.1, this.2.1⟩
  have h2 : ∀ x ∈ hexT e.2, x ≠ 59 := fun x hx => (range_ne (hex_range (hexT_chars _ x hx))).2.1
  refine ⟨?_, cutC_stop fun x hx => (h1 x hx).1⟩
  have e1 : entT e ++ r = (tx e.1 ++ 61 :: hexT e.2) ++ 59 :: r := by unfold entT; simp
  rw [e1]
  refine cutC_stop fun x hx => ?_
  rcases List.mem_append.1 hx with hx | hx
  · exact (h1 x hx).2
  · rcases List.mem_cons.1 hx with rfl | hx
    · decide
    · exact h2 x hx
theorem FC.head {s : Bs} {acc : List En} {rest : Bs} (h : FC s acc rest) (hne : rest ≠ []) {l : List En} (hv : entsV l = true) (hl : foldB l = s) : ∃ e m, l = acc ++ e :: m ∧ rest = entT e ++ m.flatMap entT ∧ entOk e = true := by
  obtain ⟨m, h1, h2⟩ := h l hv hl
  cases m with
  | nil => exact absurd h2 hne
  | cons e m => exact ⟨e, m, h1, by rw [h2, List.flatMap_cons], entsV_ok hv (by rw [h1]; simp)⟩
theorem FC.fail1 {s : Bs} {acc : List En} {rest : Bs} (h : FC s acc rest) (hne : rest ≠ []) (hc : cutC 59 rest = none) : readF s = none := readF_none fun l hv hl => by
  obtain ⟨e, m, _, h2, h3⟩ := h.head hne hv hl
  rw [h2, (ent_cut h3 _).1] at hc; cases hc
theorem FC.fail2 {s : Bs} {acc : List En} {rest p a : Bs} (h : FC s acc rest) (hne : rest ≠ []) (hc : cutC 59 rest = some (p, a)) (hd : cutC 61 p = none) : readF s = none := readF_none fun l hv hl => by
  obtain ⟨e, m, _, h2, h3⟩ := h.head hne hv hl
  rw [h2, (ent_cut h3 _).1] at hc
  injection hc with hc; injection hc with h4 h5
  rw [← h4, (ent_cut h3 []).2] at hd; cases hd
theorem FC.fail3 {s : Bs} {acc : List En} {rest : Bs} (h : FC s acc rest) (hne : rest ≠ []) (hc : 3 ≤ acc.length) : readF s = none := readF_none fun l hv hl => by
  obtain ⟨e, m, h1, _, _⟩ := h.head hne hv hl
  have := entsV_len hv
  rw [h1, List.length_append, List.length_cons] at this; omega
theorem FC.step {s : Bs} {acc : List En} {rest p a n d : Bs} (h : FC s acc rest) (hne : rest ≠ []) (hc : cutC 59 rest = some (p, a)) (hd : cutC 61 p = some (n, d)) : FC s (acc ++ [(mk n, readH d)]) a := fun l hv hl => by
  obtain ⟨e, m, h1, h2, h3⟩ := h.head hne hv hl
  rw [h2, (ent_cut h3 _).1] at hc
  injection hc with hc; injection hc with h4 h5
  rw [← h4, (ent_cut h3 []).2] at hd
  injection hd with hd; injection hd with h6 h7
  refine ⟨m, ?_, h5.symm⟩
  rw [← h6, ← h7, readH_hexT (entOk_iff.1 h3).2, mk_tx, h1]
  simp
theorem FC.done {s : Bs} {acc : List En} (h : FC s acc []) (hs : s ≠ []) : readF s = if foldT acc = s then some acc else none := by
  split
  · rename_i he
    have hv : entsV acc = true := by
      cases hv : entsV acc
      · unfold foldT at he; rw [hv] at he; exact absurd he.symm hs
      · rfl
    unfold foldT at he
    rw [hv, if_pos rfl] at he
    exact readF_iff.2 ⟨hv, he⟩
  · rename_i he
    refine readF_none fun l hv hl => ?_
    obtain ⟨m, h1, h2⟩ := h l hv hl
    have hm : m = [] := by
      cases m with
      | nil => rfl
      | cons e m => rw [List.flatMap_cons] at h2; exact absurd h2.symm (entT_ne _ _)
    subst hm
    rw [List.append_nil] at h1; subst h1
    apply he
    unfold foldT; rw [hv, if_pos rfl, hl]
theorem FC.sfail {s : Bs} {acc : List En} {rest : Bs} (h : FC s acc rest) (hne : rest ≠ []) (hc : ¬ (headC 61 rest).length + (headC 59 (rest.drop (headC 61 rest).length)).length < rest.length) : readF s = none := readF_none fun l hv hl => by
  obtain ⟨e, m, _, h2, h3⟩ := h.head hne hv hl
  apply hc
  have h1 : ∀ x ∈ tx e.1, x ≠ 61 := fun x hx => (range_ne (word_range (word_chars (entOk_iff.1 h3).1 x hx))).1
  have h5 : ∀ x ∈ 61 :: hexT e.2, x ≠ 59 := fun x hx => by
    rcases List.mem_cons.1 hx with rfl | hx
    · decide
    · exact (range_ne (hex_range (hexT_chars _ x hx))).2.1
  have e1 : rest = tx e.1 ++ 61 :: (hexT e.2 ++ 59 :: m.flatMap entT) := by rw [h2]; unfold entT; simp
  have e2 : headC 61 rest = tx e.1 := by rw [e1]; exact headC_stop h1
  have e3 : rest.drop (tx e.1).length = (61 :: hexT e.2) ++ 59 :: m.flatMap entT := by rw [e1, List.drop_left]; rfl
  rw [e2, e3, headC_stop h5, e1]
  simp
theorem FC.sstep {s : Bs} {acc : List En} {rest : Bs} (h : FC s acc rest) (hne : rest ≠ []) :
    FC s (acc ++ [(mk (rest.take (headC 61 rest).length), readH ((rest.drop ((headC 61 rest).length + 1)).take ((headC 59 (rest.drop (headC 61 rest).length)).length - 1)))]) (rest.drop ((headC 61 rest).length + (headC 59 (rest.drop (headC 61 rest).length)).length + 1)) := fun l hv hl => by
  obtain ⟨e, m, h1', h2, h3⟩ := h.head hne hv hl
  have h1 : ∀ x ∈ tx e.1, x ≠ 61 := fun x hx => (range_ne (word_range (word_chars (entOk_iff.1 h3).1 x hx))).1
  have h5 : ∀ x ∈ 61 :: hexT e.2, x ≠ 59 := fun x hx => by
    rcases List.mem_cons.1 hx with rfl | hx
    · decide
    · exact (range_ne (hex_range (hexT_chars _ x hx))).2.1
  have e1 : rest = tx e.1 ++ 61 :: (hexT e.2 ++ 59 :: m.flatMap entT) := by rw [h2]; unfold entT; simp
  have e2 : headC 61 rest = tx e.1 := by rw [e1]; exact headC_stop h1
  have e3 : rest.drop (tx e.1).length = (61 :: hexT e.2) ++ 59 :: m.flatMap entT := by rw [e1, List.drop_left]; rfl
  have e4 : rest.drop ((tx e.1).length + 1) = hexT e.2 ++ 59 :: m.flatMap entT := by rw [← List.drop_drop, e3]; rfl
  have e5 : rest.drop ((tx e.1).length + (61 :: hexT e.2).length + 1) = m.flatMap entT := by
    rw [Nat.add_assoc, ← List.drop_drop, e3, drop_past]
  refine ⟨m, ?_, ?_⟩
  · rw [e2, e3, headC_stop h5, e4]
    have e6 : rest.take (tx e.1).length = tx e.1 := by rw [e1]; exact List.take_left' rfl
    rw [e6, List.length_cons, Nat.add_sub_cancel, List.take_left' rfl, readH_hexT (entOk_iff.1 h3).2, mk_tx, h1']
    simp
  · rw [e2, e3, headC_stop h5, e5]
--END
end Go.Proofs.YtokelopllbaikaaGreatDoor

/- CutPrefix at a byte; ReadFolder of the program, walked. -/
set_option linter.unusedVariables false
namespace Go.Proofs.YtokelopllbaikaaGreatDoor
open Go.RowKit
theorem bs_ne_nil {s : ByteArray} (h : 0 < s.size) : bs s ≠ [] := fun e => by have := size_bs s; rw [e] at this; simp at this; omega
theorem drop1_ext (s : ByteArray) : s.extract 1 s.size = mk ((bs s).tail) := by
  apply ByteArray.ext
  apply Array.ext'
  rw [Lib.extract_data]
  show ((bs s).drop 1).take _ = (bs s).tail
  rw [List.drop_one]
  exact List.take_of_length_le (by rw [List.length_tail]; exact Nat.le_refl _)
theorem take1_ext (s : ByteArray) (h : 0 < s.size) : s.extract 0 1 = mk [s[0]] := by
  apply ByteArray.ext
  apply Array.ext'
  rw [Lib.extract_data]
  show ((bs s).drop 0).take (1 - 0) = [s[0]]
  rw [List.drop_zero, Nat.sub_zero]
  have hp : 0 < (bs s).length := h
  cases hb : bs s with
  | nil => rw [hb] at hp; simp at hp
  | cons x r =>
    have : (bs s)[0] = s[0] := rfl
    simp only [hb, List.getElem_cons_zero] at this
    rw [this]; rfl
def prefV (c : UInt8) (s : ByteArray) : Value := if 0 < s.size ∧ (bs s).headD 0 = c then .tuple #[.string (mk ((bs s).tail)), .bool true] else .tuple #[.string s, .bool false]
theorem head_bs0 {s : ByteArray} (h : 0 < s.size) : (bs s).headD 0 = s[0] := by
  have hp : 0 < (bs s).length := h
  have e : (bs s)[0] = s[0] := rfl
  rw [← e, List.headD_eq_head?_getD, List.head?_eq_getElem?, List.getElem?_eq_getElem hp]; rfl
set_option maxHeartbeats 1000000 in
set_option maxRecDepth 100000 in
theorem hasPre_any (s : ByteArray) (c : UInt8) (w : World) (hs : s.size ≤ 16777216) : Calls Tryz.prog 87 #[.string s, .string ⟨#[c]⟩] w fun e w' => e = .returned (.bool (decide (0 < s.size ∧ (bs s).headD 0 = c))) ∧ w = w' := by
  have h1 : (⟨#[c]⟩ : ByteArray).size = 1 := rfl
  by_cases h0 : 0 < s.size
  · have hz : 1 ≤ s.size := h0
    have hx := take1_ext s h0
    have hb := head_bs0 h0
    by_cases he : s[0] = c
    · have E := Lib.hid (show decide (0 < s.size ∧ (bs s).headD 0 = c) = true from decide_eq_true ⟨h0, hb.trans he⟩)
      have heq : ((s.extract 0 1).toList == [c]) = true := by rw [ByteArray.toList_eq, hx, he]; exact beq_self_eq_true _
      clear hx hb he
      rw [E.out]
      go_enter Tryz.func87, Tryz.ntmps87
      go_wp2
      go_ret
      exact ⟨rfl, rfl⟩
    · have E := Lib.hid (show decide (0 < s.size ∧ (bs s).headD 0 = c) = false from decide_eq_false (fun h => he (hb.symm.trans h.2)))
      have heq : ((s.extract 0 1).toList == [c]) = false := by
        rw [ByteArray.toList_eq, hx, beq_eq_false_iff_ne]; intro e
        have e' : [s[0]] = [c] := e
        injection e' with e' _; exact he e'
      clear hx hb he
      rw [E.out]
      go_enter Tryz.func87, Tryz.ntmps87
      go_wp2
      go_ret
      exact ⟨rfl, rfl⟩
  · have E := Lib.hid (show decide (0 < s.size ∧ (bs s).headD 0 = c) = false from decide_eq_false (fun h => h0 h.1))
    have hz : ¬ 1 ≤ s.size := by omega
    rw [E.out]
    go_enter Tryz.func87, Tryz.ntmps87
    go_wp2
    go_ret
    exact ⟨rfl, rfl⟩
set_option maxHeartbeats 1000000 in
set_option maxRecDepth 100000 in
theorem cutPre_any (s : ByteArray) (c : UInt8) (w : World) (hs : s.size ≤ 16777216) : Calls Tryz.prog 66 #[.string s, .string ⟨#[c]⟩] w fun e w' => e = .returned (prefV c s) ∧ w = w' := by
  have hH := fun w => hasPre_any s c w hs
  have h1 : (⟨#[c]⟩ : ByteArray).size = 1 := rfl
  by_cases h0 : 0 < s.size ∧ (bs s).headD 0 = c
  · have E := Lib.hid (show prefV c s = .tuple #[.string (mk ((bs s).tail)), .bool true] by unfold prefV; rw [if_pos h0])
    rw [decide_eq_true h0] at hH
    have HH := Lib.hid hH
    have hx := drop1_ext s
    have hz : 1 ≤ s.size := h0.1
    clear hH h0
    rw [E.out]
    go_enter Tryz.func66, Tryz.ntmps66
    go_wp2_with (go_at_call 87; refine (HH.out _).mono ?_; rintro e w' ⟨rfl, rfl⟩)
    go_ret2
    exact ⟨rfl, rfl⟩
  · have E := Lib.hid (show prefV c s = .tuple #[.string s, .bool false] by unfold prefV; rw [if_neg h0])
    rw [decide_eq_false h0] at hH
    have HH := Lib.hid hH
    clear hH h0
    rw [E.out]
    go_enter Tryz.func66, Tryz.ntmps66
    go_wp2_with (go_at_call 87; refine (HH.out _).mono ?_; rintro e w' ⟨rfl, rfl⟩)
    go_ret2
    exact ⟨rfl, rfl⟩
set_option maxHeartbeats 1000000 in
set_option maxRecDepth 100000 in
theorem CutPrefix_any (s : ByteArray) (c : UInt8) (w : World) (hs : s.size ≤ 16777216) : Calls Tryz.prog 36 #[.string s, .string ⟨#[c]⟩] w fun e w' => e = .returned (prefV c s) ∧ w = w' := by
  have hH := fun w => cutPre_any s c w hs
  unfold prefV at *
  by_cases h0 : 0 < s.size ∧ (bs s).headD 0 = c
  · simp only [if_pos h0] at hH ⊢
    have HH := Lib.hid hH
    clear hH h0
    go_enter Tryz.func36, Tryz.ntmps36
    go_wp2_with (go_at_call 66; refine (HH.out _).mono ?_; rintro e w' ⟨rfl, rfl⟩)
    go_ret2
    exact ⟨rfl, rfl⟩
  · simp only [if_neg h0] at hH ⊢
    have HH := Lib.hid hH
    clear hH h0
    go_enter Tryz.func36, Tryz.ntmps36
    go_wp2_with (go_at_call 66; refine (HH.out _).mono ?_; rintro e w' ⟨rfl, rfl⟩)
    go_ret2
    exact ⟨rfl, rfl⟩
theorem fitE_nil' : FitE [] := fun p hp => absurd hp List.not_mem_nil
def RfRes (r : Option (List En)) (w : World) (e : Ending) (w' : World) : Prop := ∃ v, e = .returned (.tuple #[v, .bool r.isSome]) ∧ Own w' w.heap.size 70 2 encE v (r.getD []) ∧ Below w.heap.size w w'
theorem RfRes.no {r : Option (List En)} (h : r = none) {w w' : World} (hb : Below w.heap.size w w') : RfRes r w (.returned (.tuple #[.slice none 0 0, .bool false])) w' := by
  subst h; exact ⟨_, rfl, Own.nil, hb⟩
theorem RfRes.yes {r : Option (List En)} {l : List En} (h : r = some l) {w w' : World} {v : Value} (ho : Own w' w.heap.size 70 2 encE v l) (hb : Below w.heap.size w w') : RfRes r w (.returned (.tuple #[v, .bool true])) w' := by
  subst h; exact ⟨_, rfl, ho, hb⟩
theorem readF_head {s : ByteArray} (h : ¬ (0 < s.size ∧ (bs s).headD 0 = 100)) : readF (bs s) = none := readF_none fun l _ e => by
  apply h
  have h2 := size_bs s
  rw [← e] at h2 ⊢
  unfold foldB at h2 ⊢
  rw [List.length_cons] at h2
  exact ⟨by omega, rfl⟩
set_option maxHeartbeats 2000000 in
set_option maxRecDepth 100000 in
theorem iReadFolder_any (s : ByteArray) (w : World) (hs : s.size ≤ 1048576) (ht : TzL w) (hm : MaxL w) :
    Calls Tryz.prog 69 #[.string s] w (RfRes (readF (bs s)) w) := by
  have HT := Lib.hid ht
  have HM := Lib.hid hm
  have hCP := fun w => CutPrefix_any s 100 w (by omega)
  unfold prefV at hCP
  clear ht hm
  by_cases h0 : 0 < s.size ∧ (bs s).headD 0 = 100
  case neg =>
    have E := Lib.hid (readF_head h0)
    simp only [if_neg h0] at hCP
    have HCP := Lib.hid hCP
    clear hCP h0
    go_enter Tryz.func69, Tryz.ntmps69
    go_wp2_with (go_at_call 36; refine (HCP.out _).mono ?_; rintro e w' ⟨rfl, rfl⟩)
    go_ret2
    exact RfRes.no E.out (Below.refl _ _)
  simp only [if_pos h0] at hCP
  have HCP := Lib.hid hCP
  have hne := bs_ne_nil h0.1
  have HC0 := Lib.hid (show FC (bs s) [] (bs s).tail by rw [← List.drop_one]; exact FC.start (bs s))
  have hr0 : ((bs s).tail).length ≤ s.size := by rw [List.length_tail, size_bs]; omega
  have HDN := Lib.hid (fun acc (h : FC (bs s) acc []) => h.done hne)
  clear hCP h0 hne
  generalize hS : bs s = S at *
  generalize S.tail = R0 at *
  have HS := Lib.hid hS
  clear hS
  go_enter Tryz.func69, Tryz.ntmps69
  go_wp2_with (go_at_call 36; refine (HCP.out _).mono ?_; rintro e w' ⟨rfl, rfl⟩)
  go_loopw [4, 6] (fun r v wr => ∃ (rb : ByteArray) (acc : List En), r = .string rb ∧ rb.size ≤ s.size ∧ acc.length ≤ 3 ∧ Hid (FitE acc) ∧ Hid (FC S acc (bs rb)) ∧ Own wr w.heap.size 70 2 encE v acc ∧ Below w.heap.size w wr) (fun r _ _ => match r with | .string x => x.size | _ => 0)
  case atStart => exact ⟨mk R0, [], rfl, by rw [mk_size]; exact hr0, Nat.zero_le _, fitE_nil', HC0.out, Own.nil, Below.refl _ _⟩
  case round =>
    obtain ⟨rb, acc, rfl, hrl, ha3, HF, HC, hown, hb⟩ := hrel
    obtain ⟨X, d, rfl, hle, hsX, _⟩ := hown.sl
    have HW := Lib.hid hown
    have HSX := Lib.hid hsX
    have HB := Lib.hid hb
    clear hown hsX hb
    by_cases hre : rb.size = 0
    · have hnil := nil_tl hre
      have hdn := HDN.out acc (by have := HC.out; rwa [show bs rb = [] from List.eq_nil_of_length_eq_zero hre] at this)
      have HFT := Lib.hid (fun w h h2 => iFolderText_any X d acc w h (by omega) HF.out h2)
      clear hre
      by_cases he : foldT acc = S
      · rw [if_pos he] at hdn
        have HE := Lib.hid hdn
        have heq : ((mk (foldT acc)).toList == s.toList) = true := by rw [eq_tlx, HS.out]; exact beq_iff_eq.2 he
        clear hdn he
        go_wp2_with fail
        refine (HFT.out _ HSX.out (HT.out.below HB.out)).mono ?_
        rintro e w1 ⟨rfl, hb1⟩
        have HW1 := Lib.hid (HW.out.below hb1)
        have HB1 := Lib.hid (Below_then HB.out hb1 (Nat.le_refl _))
        clear hb1
        go_wp2
        go_ret2
        exact RfRes.yes HE.out HW1.out HB1.out
      · rw [if_neg he] at hdn
        have HE := Lib.hid hdn
        have heq : ((mk (foldT acc)).toList == s.toList) = false := by rw [eq_tlx, HS.out]; exact beq_eq_false_iff_ne.2 he
        clear hdn he
        go_wp2_with fail
        refine (HFT.out _ HSX.out (HT.out.below HB.out)).mono ?_
        rintro e w1 ⟨rfl, hb1⟩
        have HB1 := Lib.hid (Below_then HB.out hb1 (Nat.le_refl _))
        clear hb1
        go_wp2
        go_ret2
        exact RfRes.no HE.out HB1.out
    · have hpos : 0 < rb.size := by omega
      obtain ⟨hne, hne2⟩ := ne_tl (s := rb) hpos
      have hnb := bs_ne_nil hpos
      have hct := fun w h => Cut_any rb 59 w (by omega) h
      unfold cutV at hct
      clear hre
      cases hcu : cutC 59 (bs rb) with
      | none =>
        have HE := Lib.hid (HC.out.fail1 hnb hcu)
        simp only [hcu] at hct
        have HCT := Lib.hid hct
        have hc2 := fun w h => Cut_any rb 61 w (by omega) h
        unfold cutV at hc2
        clear hct hcu hnb
        cases hcv : cutC 61 (bs rb) with
        | none =>
          simp only [hcv] at hc2
          have HC2 := Lib.hid hc2
          clear hc2 hcv
          go_wp2_with fail
          refine (HCT.out _ (HM.out.below HB.out)).mono ?_
          rintro e w1 ⟨rfl, hb1⟩
          have HB1 := Lib.hid (Below_then HB.out hb1 (Nat.le_refl _))
          clear hb1
          go_wp2_with fail
          refine (HC2.out _ (HM.out.below HB1.out)).mono ?_
          rintro e w2 ⟨rfl, hb2⟩
          have HB2 := Lib.hid (Below_then HB1.out hb2 (Nat.le_refl _))
          clear hb2
          go_wp2
          go_ret2
          exact RfRes.no HE.out HB2.out
        | some x =>
          simp only [hcv] at hc2
          have HC2 := Lib.hid hc2
          clear hc2 hcv
          go_wp2_with fail
          refine (HCT.out _ (HM.out.below HB.out)).mono ?_
          rintro e w1 ⟨rfl, hb1⟩
          have HB1 := Lib.hid (Below_then HB.out hb1 (Nat.le_refl _))
          clear hb1
          go_wp2_with fail
          refine (HC2.out _ (HM.out.below HB1.out)).mono ?_
          rintro e w2 ⟨rfl, hb2⟩
          have HB2 := Lib.hid (Below_then HB1.out hb2 (Nat.le_refl _))
          clear hb2
          go_wp2
          go_ret2
          exact RfRes.no HE.out HB2.out
      | some x =>
        obtain ⟨pp, aa⟩ := x
        have hlen := cutC_len hcu
        have hpz : (mk pp).size ≤ 16777216 := by rw [mk_size]; omega
        have haz : (mk aa).size < rb.size := by rw [mk_size]; omega
        simp only [hcu] at hct
        have HCT := Lib.hid hct
        have hc2 := fun w h => Cut_any (mk pp) 61 w hpz h
        unfold cutV at hc2
        rw [show bs (mk pp) = pp from rfl] at hc2
        have HF2 := Lib.hid (fun h => HC.out.fail2 hnb hcu h)
        have HF3 := Lib.hid (fun h => HC.out.fail3 hnb h)
        have HST := Lib.hid (fun n dg h => HC.out.step (n := n) (d := dg) hnb hcu h)
        clear hct hcu
        cases hcv : cutC 61 pp with
        | none =>
          have HE := Lib.hid (HF2.out hcv)
          simp only [hcv] at hc2
          have HC2 := Lib.hid hc2
          clear hc2 hcv hnb hlen HF2 HF3 HST
          generalize mk pp = PP at *
          generalize mk aa = AA at *
          go_wp2_with fail
          refine (HCT.out _ (HM.out.below HB.out)).mono ?_
          rintro e w1 ⟨rfl, hb1⟩
          have HB1 := Lib.hid (Below_then HB.out hb1 (Nat.le_refl _))
          clear hb1
          go_wp2_with fail
          refine (HC2.out _ (HM.out.below HB1.out)).mono ?_
          rintro e w2 ⟨rfl, hb2⟩
          have HB2 := Lib.hid (Below_then HB1.out hb2 (Nat.le_refl _))
          clear hb2
          go_wp2
          go_ret2
          exact RfRes.no HE.out HB2.out
        | some y =>
          obtain ⟨nn, dg⟩ := y
          have hlen2 := cutC_len (s := mk pp) hcv
          rw [mk_size] at hlen2
          have hnz : (mk nn).size ≤ 16777216 := by rw [mk_size]; omega
          have hdz : (mk dg).size ≤ 16777216 := by rw [mk_size]; omega
          simp only [hcv] at hc2
          have HC2 := Lib.hid hc2
          have HRH := Lib.hid (fun w h => iReadHex_any (mk dg) w hdz h)
          rw [show bs (mk dg) = dg from rfl] at HRH
          have HN := Lib.hid (show FC S (acc ++ [(mk nn, readH dg)]) (bs (mk aa)) from HST.out nn dg hcv)
          have HFN := Lib.hid (show FitE (acc ++ [(mk nn, readH dg)]) from fun q hq => by
            rcases List.mem_append.1 hq with h | h
            · exact HF.out q h
            · rw [List.mem_singleton.1 h]; exact hnz)
          clear hc2 hcv hnb hlen hlen2 HF2 HST
          generalize readH dg = hx at *
          generalize mk pp = PP at *
          generalize mk aa = AA at *
          generalize mk dg = DG at *
          generalize mk nn = NN at *
          by_cases h3 : acc.length = 3
          · have HE := Lib.hid (HF3.out (by omega))
            have h3' : (acc.length : Int) = 3 := by omega
            clear HN HFN
            go_wp2_with fail
            refine (HCT.out _ (HM.out.below HB.out)).mono ?_
            rintro e w1 ⟨rfl, hb1⟩
            have HB1 := Lib.hid (Below_then HB.out hb1 (Nat.le_refl _))
            clear hb1
            go_wp2_with fail
            refine (HC2.out _ (HM.out.below HB1.out)).mono ?_
            rintro e w2 ⟨rfl, hb2⟩
            have HB2 := Lib.hid (Below_then HB1.out hb2 (Nat.le_refl _))
            clear hb2
            go_wp2
            go_ret2
            exact RfRes.no HE.out HB2.out
          · have h3' : ¬ (acc.length : Int) = 3 := by omega
            go_wp2_with fail
            refine (HCT.out _ (HM.out.below HB.out)).mono ?_
            rintro e w1 ⟨rfl, hb1⟩
            have HW1 := Lib.hid (HW.out.below hb1)
            have HB1 := Lib.hid (Below_then HB.out hb1 (Nat.le_refl _))
            clear hb1
            go_wp2_with fail
            refine (HC2.out _ (HM.out.below HB1.out)).mono ?_
            rintro e w2 ⟨rfl, hb2⟩
            have HW2 := Lib.hid (HW1.out.below hb2)
            have HB2 := Lib.hid (Below_then HB1.out hb2 (Nat.le_refl _))
            clear hb2
            go_wp2_with fail
            refine (HRH.out _ (HT.out.below HB2.out)).mono ?_
            rintro e w3 ⟨rfl, hb3⟩
            have HW3 := Lib.hid (HW2.out.below hb3)
            have HB3 := Lib.hid (Below_then HB2.out hb3 (Nat.le_refl _))
            clear hb3
            go_wp2_with (at_builtin; refine app_en (w0 := w) (y := (NN, hx)) rfl rfl rfl rfl HW3.out HB3.out (Nat.le_refl _) HB3.out.size (by omega) ?_; intro v4 w4 hown4 hb4; have HW4 := Lib.hid hown4; have HB4 := Lib.hid hb4; clear hown4 hb4)
            go_roundw
            case rel => exact ⟨AA, _, rfl, by omega, by simp; omega, HFN.out, HN.out, HW4.out, HB4.out⟩
            case measure => simpa using haz
end Go.Proofs.YtokelopllbaikaaGreatDoor

/- Children by name as the reference looks for them; what a change of a store answers. Plain but for one shape of answers. -/
set_option linter.unusedVariables false
namespace Go.Proofs.YtokelopllbaikaaGreatDoor
open Go.RowKit
def chE (l : List En) (n : Bs) (k : Nat) : Int := (l.take k).foldl (fun c e => if tx e.1 = n then e.2 else c) (-1)
theorem chE_yes {l : List En} {n : Bs} {k : Nat} (hk : k < l.length) (h : tx l[k].1 = n) : chE l n (k + 1) = l[k].2 := by
  unfold chE
  rw [List.take_succ_eq_append_getElem hk, List.foldl_append, List.foldl_cons, List.foldl_nil, if_pos h]
theorem chE_no {l : List En} {n : Bs} {k : Nat} (hk : k < l.length) (h : tx l[k].1 ≠ n) : chE l n (k + 1) = chE l n k := by
  unfold chE
  rw [List.take_succ_eq_append_getElem hk, List.foldl_append, List.foldl_cons, List.foldl_nil, if_neg h]
theorem chE_fold {n : Bs} : ∀ (l : List En), SortE l → ∀ c : Int, l.foldl (fun c e => if tx e.1 = n then e.2 else c) c = (getE l n).getD c
  | [], _, c => rfl
  | x :: r, hs, c => by
    have h1 := List.pairwise_cons.1 hs
    rw [List.foldl_cons]
    by_cases hx : tx x.1 = n
    · have hn : getE r n = none := getE_none_iff.2 fun y hy e => by
        have h2 := h1.1 y hy
        rw [hx, e, lessB_irrefl] at h2; cases h2
      have hg : getE (x :: r) n = some x.2 := by unfold getE; rw [List.find?_cons_of_pos (by simpa using hx)]; rfl
      rw [if_pos hx, chE_fold r h1.2, hn, hg]; rfl
    · have hg : getE (x :: r) n = getE r n := by unfold getE; rw [List.find?_cons_of_neg (by simpa using hx)]
      rw [if_neg hx, chE_fold r h1.2, hg]
theorem chE_all {l : List En} {n : Bs} (hs : SortE l) {k : Nat} (hk : l.length ≤ k) : chE l n k = (getE l n).getD (-1) := by
  unfold chE
  rw [List.take_of_length_le hk, chE_fold l hs]
theorem getE_pos {l : List En} {n : Bs} {q : Int} (hv : entsV l = true) (h : getE l n = some q) : 0 ≤ q := pv_nonneg (entOk_iff.1 (entsV_ok hv (getE_some h))).2
theorem setP_valid {s : List Pc} {a : Option Int} {ps : List Bs} {leaf : Int} {x : List Pc × Int} (hs : storeV s = true) (h : setP s a ps leaf = some x) : storeV x.1 = true := by
  unfold setP at h
  obtain ⟨fs, _, h⟩ := Option.bind_eq_some_iff.1 h
  obtain ⟨y, _, h⟩ := Option.bind_eq_some_iff.1 h
  obtain ⟨s', hp, h⟩ := Option.map_eq_some_iff.1 h
  subst h
  exact (putAll_ok _ _ _ hs hp).1
theorem dropS_valid {s : List Pc} {fs : List (List En)} {ps : List Bs} {x : List Pc × Int} (hs : storeV s = true) (h : dropS s fs ps = some x) : storeV x.1 = true := by
  unfold dropS at h
  obtain ⟨s', hp, h⟩ := Option.map_eq_some_iff.1 h
  subst h
  exact (putAll_ok _ _ _ hs hp).1
/-- A store and a print, and whether it was possible: the store may be the one that came in. -/
def SetRes (r : Option (List Pc × Int)) (w : World) (e : Ending) (w' : World) : Prop :=
  ∃ (v : Value) (m : Int), e = .returned (.tuple #[v, .int .i64 m, .bool r.isSome]) ∧ Below w.heap.size w w' ∧ ∀ x, r = some x → m = x.2 ∧ ∃ A c, v = .slice A x.1.length c ∧ Sl w' encP 2 A x.1 ∧ (A = none → c = 0) ∧ x.1.length ≤ c
theorem SetRes.no {r : Option (List Pc × Int)} {w w' : World} {v : Value} {m : Int} (h : r = none) (hb : Below w.heap.size w w') : SetRes r w (.returned (.tuple #[v, .int .i64 m, .bool false])) w' := by
  subst h; exact ⟨v, m, rfl, hb, fun x h => by cases h⟩
theorem SetRes.yes {r : Option (List Pc × Int)} {w w' : World} {A : Option Addr} {c : Nat} {l : List Pc} {m : Int} (h : r = some (l, m)) (hb : Below w.heap.size w w') (hs : Sl w' encP 2 A l) (hcz : A = none → c = 0) (hle : l.length ≤ c) : SetRes r w (.returned (.tuple #[.slice A l.length c, .int .i64 m, .bool true])) w' := by
  subst h; exact ⟨_, m, rfl, hb, fun x h => by injection h with h; subst h; exact ⟨rfl, A, c, rfl, hs, hcz, hle⟩⟩
/-- What the text put last answers is the answer. -/
theorem SetRes.put {r : Option (List Pc × Int)} {l : List Pc} {t : ByteArray} {w w1 w2 : World} {v : Value} (h : r = if (putT l t).2.2 then some ((putT l t).1, prOf (tx t)) else none) (hown : Own w2 w1.heap.size 38 2 encP v (putT l t).1) (hb1 : Below w.heap.size w w1) (hb : Below w1.heap.size w1 w2) :
    SetRes r w (.returned (.tuple #[v, .int .i64 (putT l t).2.1, .bool (putT l t).2.2])) w2 := by
  have hbb := Below_then hb1 hb (Nat.le_refl _)
  cases hok : (putT l t).2.2
  · rw [hok, if_neg (by simp)] at h
    exact SetRes.no h hbb
  · rw [hok, if_pos rfl] at h
    obtain ⟨A, c, rfl, hle, hs, _⟩ := hown.sl
    have hcz := hown.cz
    rw [(putT_ok hok).2.2]
    exact SetRes.yes h hbb hs hcz hle
theorem Sl.dropS {w : World} {b o : Nat} {l : List ByteArray} (h : Sl w encS 1 (some ⟨b, o, none⟩) l) : Sl w encS 1 (some ⟨b, o + 1, none⟩) (l.drop 1) := by
  intro hd
  have hlt : 0 < l.length := by rw [List.length_drop] at hd; omega
  obtain ⟨b2, o2, e, hc⟩ := h hlt
  injection e with e; injection e with e1 e2
  subst e1 e2
  refine ⟨b, o + 1, rfl, fun j u hu => ?_⟩
  have e2 : flat encS l = flat encS (l.take 1) ++ flat encS (l.drop 1) := by rw [← flat_append, List.take_append_drop]
  have hlen : (flat encS (l.take 1)).length = 1 := by rw [flat_length (enc := encS) (size := 1) (fun _ => rfl), List.length_take]; omega
  have := hc (1 + j) u (by rw [e2, List.getElem?_append_right (by omega), hlen]; simpa using hu)
  rwa [← Nat.add_assoc] at this
theorem Sl.gone {α : Type} {w : World} {enc : α → List Value} {size : Nat} {A : Option Addr} {l : List α} (h : l.length = 0) : Sl w enc size A l := fun hd => by omega
end Go.Proofs.YtokelopllbaikaaGreatDoor

/- Drawn inputs: words, versions, tags. -/
set_option linter.unusedVariables false
namespace Go.Proofs.YtokelopllbaikaaGreatDoor
open Go.RowKit

section
variable {ops : Array Oper} {rest : List Oper} {o : Oper} {a : Act} {Q : Exit → Act → World → Prop} {w0 wr : World} {v : Value} {g : Nat}
end
def FewV (m : Nat) (l : List Vr) : Prop := l.length ≤ m ∧ ∀ p ∈ l, p.2.2.size ≤ 60
theorem FewV.fit {m : Nat} {l : List Vr} (h : FewV m l) : FitV l := fun p hp => Nat.le_trans (h.2 p hp) (by omega)
/-! ### tags -/
end Go.Proofs.YtokelopllbaikaaGreatDoor
