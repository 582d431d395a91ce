/- Words of a text, walked. -/
import Derived.Test.YthbdcmaloojngaaDoorWs
import Derived.Test.YthbdcmaloojngaaDoorNm
import Derived.Test.YthbdcmaloojngaaDoorSl
import Derived.Test.YthbdcmaloojngaaDoorShelf
set_option linter.unusedVariables false
namespace Go.Proofs.YthbdcmaloojngaaDoor
open Go.RowKit

/-- The library's own variable holds some number. -/
def MaxL (w : World) : Prop := ∃ m, w.cell? ⟨0, 0, none⟩ = some (.int .i64 m)
theorem MaxL.below {w w' : World} (h : MaxL w) (hb : Below w.heap.size w w') : MaxL w' := by
  obtain ⟨m, hm⟩ := h; exact ⟨m, Below_cells hb _ _ _ hm⟩
theorem MaxL.lt {w : World} (h : MaxL w) : 0 < w.heap.size := by
  obtain ⟨m, hm⟩ := h; exact World.block_lt_of_cell? w _ hm
def spB : ByteArray := ⟨#[32]⟩
def SplitR (s : ByteArray) (w : World) (e : Ending) (w' : World) : Prop :=
  ∃ A c, e = .returned (.slice A (spl [] (bs s)).length c) ∧ Sl w' encS 1 A ((spl [] (bs s)).map mk) ∧ Below w.heap.size w w'
theorem SplitSp_any (s : ByteArray) (w : World) (hs : s.size ≤ 16777216) (hm : MaxL w) : Calls Tryd.prog 31 #[.string s, .string ⟨#[32]⟩] w (SplitR s w) := by
  obtain ⟨m, hm⟩ := hm
  refine (Tryd.strings_Split s ⟨#[32]⟩ m w (by omega) hm (by decide)).mono fun e w' ⟨h1, h2⟩ => ?_
  refine ⟨_, _, by rw [h1, countB_spl], ?_, by rw [h2]; exact (Below.refl _ _).alloc (Nat.le_refl _) _⟩
  intro _
  refine ⟨w.heap.size, 0, rfl, fun j u hu => ?_⟩
  rw [h2, splitB_spl, cell_of_row _ _ _ _ _ (0, 0) (heap_alloc_new w _)]
  rw [Nat.zero_add]
  have e : flat encS ((spl [] (bs s)).map mk) = ((spl [] (bs s)).map mk).map Value.string := by
    unfold flat
    induction (spl [] (bs s)).map mk with
    | nil => rfl
    | cons x r ih => rw [List.flatMap_cons, ih]; rfl
  rw [e] at hu
  simpa using hu
theorem hasS_map (l : List Bs) (q : Bs) : hasS (l.map mk) (mk q) = l.contains q := by
  unfold hasS
  rw [List.any_map]
  rw [Bool.eq_iff_iff]
  simp only [List.any_eq_true, List.contains_eq_mem, decide_eq_true_eq]
  constructor
  · rintro ⟨y, hy, h⟩
    have h2 : (q == y) = true := h
    rw [beq_iff_eq] at h2; rw [h2]; exact hy
  · intro h
    refine ⟨q, h, ?_⟩
    show (q == q) = true
    exact beq_self_eq_true q
def wordsB (s : ByteArray) : List ByteArray := (wordsOf (bs s)).map mk
theorem wordsB_len (s : ByteArray) : (wordsB s).length ≤ 61 := by unfold wordsB; rw [List.length_map]; exact wordsOf_len _
theorem addW_no {l : List Bs} {q : Bs} (h : wordV q = false ∨ l.contains q = true) : addW l q = l := by
  unfold addW
  rcases h with h | h
  · rw [h]; rfl
  · rw [h]; simp
theorem addW_yes {l : List Bs} {q : Bs} (h : wordV q = true) (h2 : l.contains q = false) : addW l q = l ++ [q] := by
  unfold addW; rw [h, h2]; rfl
theorem foldl_take {ps : List Bs} {k : Nat} (h : k < ps.length) : (ps.take (k + 1)).foldl addW [] = addW ((ps.take k).foldl addW []) ps[k] := by
  rw [List.take_succ_eq_append_getElem h, List.foldl_append]; rfl
theorem map_at {l : List Bs} {k : Nat} (h : k < l.length) : (l.map mk)[k]'(by rw [List.length_map]; exact h) = mk l[k] := by simp
set_option maxHeartbeats 4000000 in
set_option maxRecDepth 100000 in
theorem iWordsOf_any (s : ByteArray) (w : World) (hs : s.size ≤ 16777216) (hm : MaxL w) :
    Calls Tryd.prog 10 #[.string s] w (OwnRes 9 1 encS (wordsB s) w) := by
  have HM := Lib.hid hm
  clear hm
  have hTV := fun w => iTextValid_any s w hs
  cases hv : textV (bs s)
  · have e : wordsB s = [] := by unfold wordsB wordsOf; rw [hv]; rfl
    rw [e]
    rw [hv] at hTV
    have HTV := Lib.hid hTV
    clear hTV hv e
    go_enter Tryd.func10, Tryd.ntmps10
    go_wp2_with (go_at_call 21; refine (HTV.out _).mono ?_; rintro e w' ⟨rfl, rfl⟩)
    go_ret
    exact ⟨_, rfl, Own.nil, Below.refl _ _⟩
  · have e : wordsB s = ((spl [] (bs s)).foldl addW []).map mk := by unfold wordsB wordsOf; rw [hv, if_pos rfl]
    rw [e]
    have hsz : s.size ≤ 60 := textV_size hv
    have hcnt : (spl [] (bs s)).length ≤ 61 := by have := spl_len (bs s) []; have := size_bs s; omega
    have hshort := spl_short (bs s) []
    rw [hv] at hTV
    have HTV := Lib.hid hTV
    have HSP := Lib.hid (fun w h => SplitSp_any s w hs h)
    unfold SplitR at HSP
    generalize hps : spl [] (bs s) = ps at *
    have HSH := Lib.hid (show ∀ p ∈ ps, p.length ≤ 60 from fun p hp => by have h1 := hshort p hp; have h2 := size_bs s; rw [List.length_nil] at h1; omega)
    clear hTV hv e hps hshort
    go_enter Tryd.func10, Tryd.ntmps10
    go_wp2_with (go_at_call 21; refine (HTV.out _).mono ?_; rintro e w' ⟨rfl, rfl⟩)
    refine (HSP.out _ HM.out).mono ?_
    rintro e w1 ⟨A, c, rfl, hs1, hb1⟩
    have HS1 := Lib.hid hs1
    have HB1 := Lib.hid hb1
    clear hs1 hb1
    go_wp2_with fail
    go_loopw [3, 12] (fun v i wr => ∃ (k : Nat) (acc : List Bs) (ab : List ByteArray), k ≤ ps.length ∧ i = .int .i64 k ∧ ab.length ≤ k ∧ Hid (acc = (ps.take k).foldl addW []) ∧ Hid (ab = acc.map mk) ∧ Own wr w1.heap.size 9 1 encS v ab ∧ Below w1.heap.size w1 wr) (fun _ i _ => ps.length - (intOf i).toNat)
    case atStart => exact ⟨0, [], [], Nat.zero_le _, rfl, Nat.le_refl _, rfl, rfl, Own.nil, Below.refl _ _⟩
    case round =>
      obtain ⟨k, acc, ab, hk, rfl, hak, hh, hab, hown, hb⟩ := hrel
      obtain ⟨X, d, rfl, _, hsx, _⟩ := hown.sl
      by_cases hlt : k < ps.length
      · obtain ⟨b, o, rfl, hc⟩ := (HS1.out.below hb).getS (k := k) (by rw [List.length_map]; exact hlt)
        rw [map_at hlt] at hc
        have hft := foldl_take hlt
        rw [← hh.out] at hft
        have hq60 := HSH.out ps[k] (by simp)
        generalize ps[k] = q at *
        have hqs : (mk q).size ≤ 16777216 := by rw [mk_size]; omega
        have hWV := fun w => iWordValid_any (mk q) w hqs
        have hbq : bs (mk q) = q := rfl
        rw [hbq] at hWV
        have hCN := fun w h => ContainsS_any X d ab (mk q) w h (by omega)
        have hhs : hasS ab (mk q) = acc.contains q := by rw [hab.out, hasS_map]
        rw [hhs] at hCN
        have HW := Lib.hid hown
        have HSX := Lib.hid hsx
        have HFT := Lib.hid hft
        have HB := Lib.hid hb
        have HBQ := Lib.hid hqs
        clear hown hsx hft hb hbq hqs hhs
        cases hwv : wordV q
        · rw [hwv] at hWV
          have HWV := Lib.hid hWV
          have HNO := Lib.hid (addW_no (l := acc) (.inl hwv))
          clear hWV hCN hwv
          go_wp2_with (go_at_call 20; refine (HWV.out _).mono ?_; rintro e w' ⟨rfl, rfl⟩)
          go_roundw
          case rel => exact ⟨k + 1, acc, ab, by omega, by go_num, by omega, by show _ = _; rw [HFT.out, HNO.out], hab, HW.out, HB.out⟩
          case measure => simp [intOf]; omega
        · rw [hwv] at hWV
          have HWV := Lib.hid hWV
          clear hWV
          cases hcn : acc.contains q
          · rw [hcn] at hCN
            have HCN := Lib.hid hCN
            have HYES := Lib.hid (addW_yes hwv hcn)
            clear hCN hwv hcn
            have hl1 : ab.length ≤ 16777216 := by omega
            go_wp2_with (first
              | (go_at_call 20; refine (HWV.out _).mono ?_; rintro e w' ⟨rfl, rfl⟩)
              | (go_at_call 32; refine (HCN.out _ HSX.out).mono ?_; rintro e w' ⟨rfl, rfl⟩)
              | (at_builtin; refine app_str (w0 := w1) rfl rfl rfl rfl HW.out HB.out hl1 ?_; intro v1 w2 hown2 hb2; have HW2 := Lib.hid hown2; have HB2 := Lib.hid hb2; clear hown2 hb2))
            go_roundw
            case rel => exact ⟨k + 1, acc ++ [q], ab ++ [mk q], by omega, by go_num, by simp; omega, by show _ = _; rw [HFT.out, HYES.out], by show _ = _; rw [hab.out, List.map_append]; rfl, HW2.out, HB2.out⟩
            case measure => simp [intOf]; omega
          · rw [hcn] at hCN
            have HCN := Lib.hid hCN
            have HNO := Lib.hid (addW_no (l := acc) (q := q) (.inr hcn))
            clear hCN hwv hcn
            go_wp2_with (first
              | (go_at_call 20; refine (HWV.out _).mono ?_; rintro e w' ⟨rfl, rfl⟩)
              | (go_at_call 32; refine (HCN.out _ HSX.out).mono ?_; rintro e w' ⟨rfl, rfl⟩))
            go_roundw
            case rel => exact ⟨k + 1, acc, ab, by omega, by go_num, by omega, by show _ = _; rw [HFT.out, HNO.out], hab, HW.out, HB.out⟩
            case measure => simp [intOf]; omega
      · have HW := Lib.hid hown
        have HB := Lib.hid hb
        clear hown hb
        go_wp2
        go_ret
        refine ⟨_, rfl, ?_, Below_then HB1.out HB.out (Nat.le_refl _)⟩
        have e : ps.foldl addW [] = acc := by rw [hh.out, List.take_of_length_le (by omega)]
        rw [e, ← hab.out]
        exact HW.out.mono HB1.out.size
end Go.Proofs.YthbdcmaloojngaaDoor
