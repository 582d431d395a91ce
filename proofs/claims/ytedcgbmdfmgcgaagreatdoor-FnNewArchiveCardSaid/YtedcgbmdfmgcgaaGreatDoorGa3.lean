/- Texts in one: De, Em, Pj, Vb. -/
import Derived.Test.YtedcgbmdfmgcgaaGreatDoorGa2
import Derived.Test.YtedcgbmdfmgcgaaGreatDoorEv
import Derived.Test.YtedcgbmdfmgcgaaGreatDoorRh
import Derived.Test.YtedcgbmdfmgcgaaGreatDoorFt
import Derived.Test.YtedcgbmdfmgcgaaGreatDoorGa0
import Derived.Test.YtedcgbmdfmgcgaaGreatDoorPp
import Derived.Test.YtedcgbmdfmgcgaaGreatDoorShelf
import Derived.Test.YtedcgbmdfmgcgaaGreatDoorGa1
import Derived.Test.YtedcgbmdfmgcgaaGreatDoorRg
import Derived.Lib.Join
/- DropEntry of the reference. -/
set_option linter.unusedVariables false
namespace Go.Proofs.YtedcgbmdfmgcgaaGreatDoor
open Go.RowKit
/-- A list of entries and whether it was possible. -/
def EnRes (r : List En × Bool) (w : World) (e : Ending) (w' : World) : Prop :=
  ∃ v, e = .returned (.tuple #[v, .bool r.2]) ∧ Own w' w.heap.size 100 2 encE v r.1 ∧ Below w.heap.size w w'
def dropQ (n : Bs) (l : List En) : List En := l.filter fun x => !(tx x.1 == n)
theorem dropQ_next {n : Bs} {l : List En} {k : Nat} (h : k < l.length) : dropQ n (l.take (k + 1)) = dropQ n (l.take k) ++ if (tx l[k].1 == n) then [] else [l[k]] := by
  unfold dropQ
  rw [List.take_succ_eq_append_getElem h, List.filter_append]
  cases hp : (tx l[k].1 == n) <;> simp [hp]
theorem dropQ_len (n : Bs) (l : List En) : (dropQ n l).length ≤ l.length := List.length_filter_le _ _
set_option maxHeartbeats 4000000 in
set_option maxRecDepth 100000 in
theorem sDropEntry_any (A : Option Addr) (c : Nat) (l : List En) (n : ByteArray) (w : World) (hs : Sl w encE 2 A l) (hv : entsV l = true) :
    Calls Tryz.prog 160 #[.slice A l.length c, .string n] w (EnRes (dropE l (bs n)) w) := by
  have HS := Lib.hid hs
  have HB := Lib.hid ((Below.refl w.heap.size w).alloc (Nat.le_refl _) madeEn)
  have HW := Lib.hid (Own.made (enc := encE) (E := 100) (size := 2) (Nat.le_refl w.heap.size))
  have hl3 := entsV_len hv
  have hEV := fun w h => sEntriesValid_any A c l w h (by omega) (fitE_valid hv)
  rw [hv] at hEV
  have HEV := Lib.hid hEV
  have E1 : Hid ((dropE l (bs n)).1 = dropQ (bs n) l) := dropE_filter hv (bs n)
  have E2 := Lib.hid (show decide ((dropQ (bs n) l).length < l.length) = (dropE l (bs n)).2 by
    rw [dropE_ok hv, ← dropE_lt hv (bs n), show (dropE l (bs n)).1 = dropQ (bs n) l from dropE_filter hv (bs n)])
  have HLQ := Lib.hid (fun k => dropQ_len (bs n) (l.take k))
  clear hEV hs
  generalize dropE l (bs n) = R at *
  unfold EnRes
  go_enter Tryz.func160, Tryz.ntmps160
  go_wp2_with fail
  go_loopw [6, 7] (fun v i wr => ∃ (k : Nat), k ≤ l.length ∧ i = .int .i64 k ∧ Own wr w.heap.size 100 2 encE v (dropQ (bs n) (l.take k)) ∧ Hid (Below w.heap.size w wr)) (fun _ i _ => l.length - (intOf i).toNat)
  case atStart => exact ⟨0, Nat.zero_le _, rfl, HW.out, HB.out⟩
  case round =>
    obtain ⟨k, hk, rfl, hown, HBW⟩ := hrel
    have HWW := Lib.hid hown
    clear hown
    by_cases hlt : k < l.length
    · have hlt' : (k : Int) < (l.length : Int) := by omega
      obtain ⟨b, o, hA, _, _⟩ := (HS.out.below HBW.out).getE hlt
      subst hA
      have HN := Lib.hid (dropQ_next (n := bs n) hlt)
      have hla := HLQ.out k
      have hla2 : (dropQ (bs n) (l.take k)).length ≤ 16777216 := by rw [List.length_take] at hla; omega
      go_wp2_with fail
      refine (HEV.out _ (HS.out.below HBW.out)).mono ?_
      rintro e w3 ⟨rfl, hb⟩
      replace HBW := Lib.hid (Below_then HBW.out hb (Nat.le_refl _))
      replace HWW := Lib.hid (HWW.out.below hb)
      clear hb
      obtain ⟨b2, o2, e2, hc0, hc1⟩ := (HS.out.below HBW.out).getE hlt
      injection e2 with e2; injection e2 with e3 e4
      subst e3 e4
      generalize l[k] = y at *
      obtain ⟨t, a⟩ := y
      simp only at hc0 hc1
      cases hq : (t.toList == n.toList)
      · have hne : (tx t == bs n) = false := by rw [eq_tlx] at hq; exact hq
        have HN2 := Lib.hid (show dropQ (bs n) (l.take (k + 1)) = dropQ (bs n) (l.take k) ++ [(t, a)] by rw [HN.out]; show _ ++ (if (tx t == bs n) = true then _ else _) = _; rw [hne]; rfl)
        clear hne HN
        go_wp2_with (at_builtin; refine app_en (w0 := w) (base := w.heap.size) (y := (t, a)) rfl rfl rfl rfl HWW.out HBW.out (Nat.le_refl _) HBW.out.size hla2 ?_; intro v1 w6 hown6 hb6; have HW6 := Lib.hid hown6; have HB6 := Lib.hid hb6; clear hown6 hb6)
        go_roundw
        case rel => exact ⟨k + 1, by omega, by go_num, by rw [HN2.out]; exact HW6.out, HB6.out⟩
        case measure => simp [intOf]; omega
      · have hne : (tx t == bs n) = true := by rw [eq_tlx] at hq; exact hq
        have HN2 := Lib.hid (show dropQ (bs n) (l.take (k + 1)) = dropQ (bs n) (l.take k) by rw [HN.out]; show _ ++ (if (tx t == bs n) = true then _ else _) = _; rw [hne]; simp)
        clear hne HN
        go_wp2
        go_roundw
        case rel => exact ⟨k + 1, by omega, by go_num, by rw [HN2.out]; exact HWW.out, HBW.out⟩
        case measure => simp [intOf]; omega
    · have hlt' : ¬ (k : Int) < (l.length : Int) := by omega
      have HE := Lib.hid (show l.take k = l from List.take_of_length_le (by omega))
      rw [HE.out] at HWW
      obtain ⟨X, d, e6, hle6, hs6, _⟩ := HWW.out.sl
      subst e6
      go_wp2_with fail
      refine (HEV.out _ (HS.out.below HBW.out)).mono ?_
      rintro e w3 ⟨rfl, hb⟩
      replace HBW := Lib.hid (Below_then HBW.out hb (Nat.le_refl _))
      replace HWW := Lib.hid (HWW.out.below hb)
      clear hb hs6
      by_cases hlq : (dropQ (bs n) l).length < l.length
      · have hlq' : ((dropQ (bs n) l).length : Int) < (l.length : Int) := by omega
        have HR2 := Lib.hid (show R.2 = true by rw [← E2.out]; exact decide_eq_true hlq)
        go_wp2
        go_ret2
        rw [HR2.out, E1.out]
        exact ⟨_, rfl, HWW.out, HBW.out⟩
      · have hlq' : ¬ ((dropQ (bs n) l).length : Int) < (l.length : Int) := by omega
        have HR2 := Lib.hid (show R.2 = false by rw [← E2.out]; exact decide_eq_false hlq)
        go_wp2
        go_ret2
        rw [HR2.out, E1.out]
        exact ⟨_, rfl, HWW.out, HBW.out⟩
end Go.Proofs.YtedcgbmdfmgcgaaGreatDoor

/- EmptyRoot, NewArchive, walked. -/
set_option linter.unusedVariables false
namespace Go.Proofs.YtedcgbmdfmgcgaaGreatDoor
open Go.RowKit
def foldE : ByteArray := mk (foldT [])
theorem foldE_size : foldE.size ≤ 16777216 := by unfold foldE; rw [mk_size]; have := foldT_len []; omega
theorem fitE_nil : FitE [] := fun p hp => absurd hp List.not_mem_nil
set_option maxHeartbeats 4000000 in
set_option maxRecDepth 100000 in
theorem iEmptyRoot_any (A : Option Addr) (c : Nat) (l : List Pc) (w : World) (hs : Sl w encP 2 A l) (hcz : A = none → c = 0) (hl : l.length ≤ 16777216) (hf : FitP l) (ht : TzL w) :
    Calls Tryz.prog 34 #[.slice A l.length c] w (PutRes (putT l foldE) w) := by
  have HS := Lib.hid hs
  have HT := Lib.hid ht
  have hft := fun w h => iFolderText_any none 0 [] w Sl.none_ (Nat.zero_le _) fitE_nil h
  simp only [List.length_nil] at hft
  have hpt := fun w h => iPutText_any A c l foldE w h hcz hl hf foldE_size
  clear hs hcz ht
  unfold PutRes at *
  unfold foldE at *
  generalize mk (foldT []) = FE at *
  generalize putT l FE = R at *
  have HFT := Lib.hid hft
  clear hft
  have HPT := Lib.hid hpt
  clear hpt
  go_enter Tryz.func34, Tryz.ntmps34
  go_wp2_with fail
  refine (HFT.out _ HT.out).mono ?_
  rintro e w1 ⟨rfl, hb⟩
  have HB := Lib.hid hb
  have HS1 := Lib.hid (HS.out.below hb)
  clear hb
  go_wp2_with fail
  refine (HPT.out _ HS1.out).mono ?_
  rintro e w2 ⟨v, rfl, hown, hb⟩
  have HW := Lib.hid (hown.mono HB.out.size)
  have HB2 := Lib.hid (Below_then HB.out hb (Nat.le_refl _))
  clear hown hb
  go_wp2
  go_ret3
  exact ⟨_, rfl, HW.out, HB2.out⟩
set_option maxHeartbeats 4000000 in
set_option maxRecDepth 100000 in
theorem sEmptyRoot_any (A : Option Addr) (c : Nat) (l : List Pc) (w : World) (hs : Sl w encP 2 A l) (hcz : A = none → c = 0) (hle : l.length ≤ c) (hl : l.length ≤ 16777216) (hf : FitP l) :
    Calls Tryz.prog 35 #[.slice A l.length c] w (PutRes (putT l foldE) w) := by
  have HS := Lib.hid hs
  have hft := fun g w => sFolderText_any (some ⟨g, 0, none⟩) 0 [] w Sl.none_ (Nat.zero_le _) fitE_nil
  simp only [List.length_nil] at hft
  have hpt := fun w h => sPutText_any A c l foldE w h hcz hle hl hf foldE_size
  clear hs hcz
  unfold PutRes at *
  unfold foldE at *
  generalize mk (foldT []) = FE at *
  generalize putT l FE = R at *
  have HFT := Lib.hid hft
  clear hft
  have HPT := Lib.hid hpt
  clear hpt
  go_enter Tryz.func35, Tryz.ntmps35
  go_wp2_with fail
  refine (HFT.out _ _).mono ?_
  rintro e w1 ⟨rfl, hb⟩
  have HB := Lib.hid (Below_of_alloc hb)
  have HS1 := Lib.hid (HS.out.below HB.out)
  clear hb
  go_wp2_with fail
  refine (HPT.out _ HS1.out).mono ?_
  rintro e w2 ⟨v, rfl, hown, hb⟩
  have HW := Lib.hid (hown.mono HB.out.size)
  have HB2 := Lib.hid (Below_then HB.out hb (Nat.le_refl _))
  clear hown hb
  go_wp2
  go_ret3
  exact ⟨_, rfl, HW.out, HB2.out⟩
end Go.Proofs.YtedcgbmdfmgcgaaGreatDoor

/- JoinPath and PathParts of the program: the library's Join and SplitN at a slash. -/
set_option linter.unusedVariables false
namespace Go.Proofs.YtedcgbmdfmgcgaaGreatDoor
open Go.RowKit
--BEGIN
theorem splitS_len (s : Bs) : 1 ≤ (splitS 47 s).length ∧ (splitS 47 s).length ≤ s.length + 1 := by
  induction s with
  | nil => simp [splitS]
  | cons c r ih =>
    rw [splitS]
    split
    · simp; omega
    · split
      · rename_i p ps h; rw [h] at ih; simp at ih ⊢; omega
      · simp
theorem splitK_splitS : ∀ (s : Bs) (k : Nat), (splitS 47 s).length ≤ k + 1 → Go.Lib.splitK [47] 0 k s = splitS 47 s
  | [], k, _ => by cases k <;> simp [Go.Lib.splitK, splitS, index_nil]
  | c :: r, k, h => by
    rw [splitS] at h ⊢
    by_cases e : c = 47
    · subst e
      rw [if_pos rfl] at h ⊢
      have := (splitS_len r).1
      cases k with
      | zero => rw [List.length_cons] at h; omega
      | succ k => rw [splitK_hit, splitK_splitS r k (by simpa using h)]
    · rw [if_neg e] at h ⊢
      rw [splitK_skip e, splitK_splitS r k ?_]
      · cases hs : splitS 47 r with
        | nil => exact absurd hs (splitS_ne 47 r)
        | cons p ps => rfl
      · cases hs : splitS 47 r with
        | nil => exact absurd hs (splitS_ne 47 r)
        | cons p ps => rw [hs] at h; simpa using h
def partsB (s : ByteArray) : List ByteArray := Go.Lib.splitB ⟨#[47]⟩ 0 (min 4 (s.size + 1) - 1) s
theorem partsB_map (s : ByteArray) : (partsB s).map bs = Go.Lib.splitK [47] 0 (min 4 (s.size + 1) - 1) (bs s) := Go.Lib.splitB_data ⟨#[47]⟩ 0 _ s
theorem partsB_len (s : ByteArray) : (partsB s).length ≤ min 4 (s.size + 1) := by
  have := Go.Lib.splitB_length_le ⟨#[47]⟩ 0 (min 4 (s.size + 1) - 1) s
  unfold partsB; omega
theorem pathP_back {s : Bs} {ps : List Bs} (h0 : s ≠ []) (h : joinP ps = s) : pathP s = some ps := by
  cases hv : partsV ps
  · unfold joinP at h; rw [hv] at h; exact absurd h.symm h0
  · rw [← h]; exact pathP_of hv
theorem path_parts {r : ByteArray} {s : Bs} (hs : s = 47 :: bs r) (h1 : s ≠ [47]) : (pathP s).isSome = decide (joinP ((partsB r).map bs) = s) := by
  have h0 : s ≠ [] := by rw [hs]; simp
  by_cases hj : joinP ((partsB r).map bs) = s
  · rw [pathP_back h0 hj, decide_eq_true hj]; rfl
  · rw [decide_eq_false hj]
    unfold pathP
    rw [if_neg h1, hs]
    rw [List.headD_cons, List.tail_cons, if_pos rfl]
    by_cases hv : partsV (splitS 47 (bs r)) = true
    case neg => rw [if_neg hv]; rfl
    case pos =>
      exfalso
      apply hj
      have hl := (partsV_iff.1 hv).1
      have h2 := (splitS_len (bs r)).2
      have h3 := size_bs r
      rw [partsB_map, splitK_splitS _ _ (by omega)]
      unfold joinP
      rw [hv, if_pos rfl, if_neg (splitS_ne _ _), joinB_split, hs]
theorem joinB_join (p : Bs) (r : List Bs) : 47 :: Go.Lib.join (p :: r) [47] = joinB (p :: r) := by
  induction r generalizing p with
  | nil => rw [Go.Lib.join_one]; simp [joinB]
  | cons q t ih =>
    have e : Go.Lib.join (p :: q :: t) [47] = p ++ 47 :: Go.Lib.join (q :: t) [47] := by simp [Go.Lib.join, List.intercalate]
    rw [e, ih q]; simp [joinB]
theorem joinB_size : ∀ (l : List ByteArray), (∀ p ∈ l, p.size ≤ 8) → (joinB (l.map bs)).length ≤ 9 * l.length
  | [], _ => by simp [joinB]
  | p :: r, h => by
    have ih := joinB_size r fun x hx => h x (by simp [hx])
    have hp := h p (by simp)
    have e : joinB ((p :: r).map bs) = 47 :: (bs p ++ joinB (r.map bs)) := by simp [joinB]
    rw [e, List.length_cons, List.length_append, List.length_cons, size_bs]
    omega
def joinT (l : List ByteArray) : ByteArray := mk (Go.Lib.join (l.map bs) [47])
theorem joinT_all {l : List ByteArray} (h3 : l.length ≤ 3) (h : ∀ j (hj : j < l.length), wordV (bs l[j]) = true) : mk [47] ++ joinT l = mk (joinP (l.map bs)) := by
  unfold joinP joinT
  rw [joinP_good h3 h, if_pos rfl, mk_append]
  cases l with
  | nil => rfl
  | cons p r => rw [if_neg (by simp)]; exact congrArg mk (joinB_join (bs p) (r.map bs))
theorem joinT_size {l : List ByteArray} (h3 : l.length ≤ 3) (h : ∀ p ∈ l, p.size ≤ 8) : (joinT l).size ≤ 27 := by
  unfold joinT
  rw [mk_size]
  cases l with
  | nil => simp [Go.Lib.join, List.intercalate]
  | cons p r =>
    have h1 := congrArg List.length (joinB_join (bs p) (r.map bs))
    have h2 := joinB_size (p :: r) h
    rw [List.length_cons] at h1
    simp only [List.map_cons, List.length_cons] at h1 h2 h3 ⊢
    omega
--END
theorem cell_lt {w : World} {b o : Nat} {v : Value} (h : w.cell? ⟨b, o, none⟩ = some v) : b < w.heap.size := by
  by_cases hb : b < w.heap.size
  · exact hb
  · have : w.heap[b]? = none := Array.getElem?_eq_none (by omega)
    simp [World.cell?, this] at h
theorem Join_any (A : Option Addr) (c : Nat) (l : List ByteArray) (w : World) (hs : Sl w encS 1 A l) (hle : l.length ≤ c) (h3 : l.length ≤ 3) (hf : ∀ p ∈ l, p.size ≤ 8) :
    Calls Tryz.prog 110 #[.slice A l.length c, .string ⟨#[47]⟩] w fun e w' => e = .returned (.string (joinT l)) ∧ Below w.heap.size w w' := by
  cases l with
  | nil => exact (Tryz.strings_Join_none A c ⟨#[47]⟩ w).mono fun e w' ⟨h1, h2⟩ => ⟨by rw [h1]; rfl, by rw [h2]; exact Below.refl _ _⟩
  | cons p r =>
    have hz := joinT_size h3 hf
    obtain ⟨b, o, rfl, hc0⟩ := hs.getS (k := 0) (by simp)
    refine (Tryz.strings_Join b o c (p :: r) ⟨#[47]⟩ w (fun j x hx => ?_) (cell_lt hc0) (by simp at h3 ⊢; omega) hle ?_).mono fun e w' h => ⟨h.1, h.2⟩
    · obtain ⟨hj, rfl⟩ := List.getElem?_eq_some_iff.1 hx
      obtain ⟨b2, o2, e, hc⟩ := hs.getS hj
      injection e with e; injection e with e1 e2
      subst e1 e2; exact hc
    · unfold joinT at hz
      rw [mk_size] at hz
      have e : (Go.Lib.join ((p :: r).map (·.data.toList)) (⟨#[47]⟩ : ByteArray).data.toList).length = (Go.Lib.join ((p :: r).map bs) [47]).length := rfl
      omega
theorem SplitN_any (s : ByteArray) (w : World) (hs : s.size ≤ 16777216) (hm : MaxL w) : Calls Tryz.prog 86 #[.string s, .string ⟨#[47]⟩, .int .i64 4] w fun e w' =>
    ∃ A c, e = .returned (.slice A (partsB s).length c) ∧ (partsB s).length ≤ c ∧ Sl w' encS 1 A (partsB s) ∧ Below w.heap.size w w' := by
  obtain ⟨m, hm⟩ := hm
  refine (Tryz.strings_SplitN s ⟨#[47]⟩ 4 m w (by omega) hm (by decide) (by decide) (by decide)).mono fun e w' ⟨h1, h2⟩ => ?_
  refine ⟨_, _, h1, partsB_len s, ?_, by rw [h2]; exact (Below.refl _ _).alloc (Nat.le_refl _) _⟩
  intro _
  refine ⟨w.heap.size, 0, rfl, fun j u hu => ?_⟩
  rw [h2, cell_of_row _ _ _ _ _ (0, 0) (heap_alloc_new w _)]
  rw [Nat.zero_add]
  have e : ∀ l : List ByteArray, flat encS l = l.map Value.string := fun l => by
    unfold flat
    induction l with
    | nil => rfl
    | cons x r ih => rw [List.flatMap_cons, ih]; rfl
  rw [e] at hu
  have hj := (List.getElem?_eq_some_iff.1 hu).1
  unfold partsB at hu hj
  unfold Go.Lib.cellsOf
  rw [List.getElem?_toArray, List.getElem?_append_left hj]
  exact hu
set_option maxHeartbeats 2000000 in
set_option maxRecDepth 100000 in
theorem iJoinPath_any (A : Option Addr) (c : Nat) (l : List ByteArray) (w : World) (hs : Sl w encS 1 A l) (hle : l.length ≤ c) (hl : l.length ≤ 16777216) (hf : ∀ p ∈ l, p.size ≤ 16777216) :
    Calls Tryz.prog 81 #[.slice A l.length c] w fun e w' => e = .returned (.string (mk (joinP (l.map bs)))) ∧ Below w.heap.size w w' := by
  have HS := Lib.hid hs
  have HF := Lib.hid hf
  by_cases h3 : 3 < l.length
  · have E := Lib.hid (joinP_long h3)
    rw [E.out, mk_nil]
    have h3' : (3 : Int) < (l.length : Int) := by omega
    clear hs hf
    go_enter Tryz.func81, Tryz.ntmps81
    go_wp2
    go_ret
    exact ⟨rfl, Below.refl _ _⟩
  · have h3b : ¬ (3 : Int) < (l.length : Int) := by omega
    have HB := Lib.hid (fun k (hk : k < l.length) h => @joinP_bad l k hk h)
    have HJN := Lib.hid (fun h8 => Join_any A c l w hs hle (by omega) h8)
    have HE := Lib.hid (@joinT_all l (by omega))
    have HZ := Lib.hid (@joinT_size l (by omega))
    generalize joinT l = T at *
    generalize hJ : mk (joinP (l.map bs)) = J at *
    have HJ := Lib.hid hJ
    clear hJ hs hf
    go_enter Tryz.func81, Tryz.ntmps81
    go_wp2
    go_loop [10] (fun i => ∃ (k : Nat), k ≤ l.length ∧ i = .int .i64 k ∧ Hid (∀ j (h : j < l.length), j < k → wordV (bs l[j]) = true)) (fun i => l.length - (intOf i).toNat)
    case atStart => exact ⟨0, Nat.zero_le _, rfl, fun j h h2 => by omega⟩
    case round =>
      obtain ⟨k, hk, rfl, HH⟩ := hrel
      by_cases hlt : k < l.length
      · obtain ⟨b, o, rfl, hc⟩ := HS.out.getS hlt
        have hzp := HF.out _ (List.getElem_mem hlt)
        have HBk := Lib.hid (fun h => HB.out k hlt h)
        have HSTk := Lib.hid (fun (h : wordV (bs l[k]) = true) => show ∀ j (hj : j < l.length), j < k + 1 → wordV (bs l[j]) = true from fun j hj h2 => by
          by_cases e : j = k
          · subst e; exact h
          · exact HH.out j hj (by omega))
        generalize l[k] = p at *
        have hW := fun w => iWordValid_any p w hzp
        cases hw : wordV (bs p)
        · have HN := Lib.hid (show J = ⟨#[]⟩ by rw [← HJ.out, HBk.out hw]; rfl)
          rw [hw] at hW
          have HW := Lib.hid hW
          clear hW hw HSTk HBk
          go_wp2_with (go_at_call 38; refine (HW.out _).mono ?_; rintro e w' ⟨rfl, rfl⟩)
          go_ret
          rw [HN.out]
          exact ⟨rfl, Below.refl _ _⟩
        · have HN := Lib.hid (HSTk.out hw)
          rw [hw] at hW
          have HW := Lib.hid hW
          clear hW hw HSTk HBk
          go_wp2_with (go_at_call 38; refine (HW.out _).mono ?_; rintro e w' ⟨rfl, rfl⟩)
          go_round
          case rel => exact ⟨k + 1, by omega, by go_num, HN.out⟩
          case measure => simp [intOf]; omega
      · have hall := fun j (hj : j < l.length) => HH.out j hj (by omega)
        have h8 : ∀ p ∈ l, p.size ≤ 8 := fun p hp => by
          obtain ⟨i, hi, rfl⟩ := List.getElem_of_mem hp
          exact word_size (hall i hi)
        have HN := Lib.hid (show J = ⟨#[47]⟩ ++ T from (HE.out hall).symm)
        have hz := HZ.out h8
        have HJ8 := Lib.hid (HJN.out h8)
        clear hall h8
        go_wp2_with fail
        refine HJ8.out.mono ?_
        rintro e w2 ⟨rfl, hb⟩
        have HB2 := Lib.hid hb
        clear hb
        go_wp2
        go_ret
        rw [HN.out]
        exact ⟨rfl, HB2.out⟩
end Go.Proofs.YtedcgbmdfmgcgaaGreatDoor

/- Stores that are drawn: some steps from the empty folder on. Plain Lean, no program in sight. -/
set_option linter.unusedVariables false
namespace Go.Proofs.YtedcgbmdfmgcgaaGreatDoor
def paths7 : List Bs := [[47, 97], [47, 98], [47, 99], [47, 97, 47, 98], [47, 98, 47, 97], [47, 98, 47, 98, 47, 97], [47, 97, 47, 98, 47, 99]]
def conts4 : List Bs := [[104, 105], [114, 101, 100, 32, 103, 114, 101, 101, 110], [], [120]]
/-- One step: nothing, a drop, a write. -/
def StepS (s : List Pc) (r : Int) (s' : List Pc) (r' : Int) : Prop :=
  (s' = s ∧ r' = r) ∨ ∃ path ∈ paths7, (∃ b, dropA s r path = (s', r', b)) ∨ ∃ c ∈ conts4, ∃ b, writeA s r path c = (s', r', b)
inductive DrawnS : Nat → List Pc → Int → Prop
  | base : DrawnS 0 (putT [] foldE).1 (putT [] foldE).2.1
  | step {k : Nat} {s s' : List Pc} {r r' : Int} : DrawnS k s r → StepS s r s' r' → DrawnS (k + 1) s' r'
def NoZ (n : Bs) : Prop := n ≠ nameZ
theorem paths7_ok : ∀ p ∈ paths7, (pathP p).isSome = true ∧ pathP p ≠ some [] ∧ ∀ n ∈ (pathP p).getD [], n ≠ nameZ := by decide +kernel
theorem conts4_ok : ∀ c ∈ conts4, contV c = true := by decide +kernel
theorem dropA_no {s s' : List Pc} {r r' : Int} {p : Bs} (hs : storeV s = true) (hp : p ∈ paths7) (h : dropA s r p = (s', r', false)) : s' = s ∧ r' = r := by
  obtain ⟨h1, h2, _⟩ := paths7_ok p hp
  obtain ⟨ps, hps⟩ := Option.isSome_iff_exists.1 h1
  unfold dropA at h
  rw [if_pos hs, hps] at h
  cases ps with
  | nil => exact absurd hps h2
  | cons n t =>
    simp only at h
    split at h
    · simp at h
    · simp only [Prod.mk.injEq, and_true] at h; exact ⟨h.1.symm, h.2.symm⟩
theorem writeA_no {s s' : List Pc} {r r' : Int} {p c : Bs} (hs : storeV s = true) (hp : p ∈ paths7) (hc : c ∈ conts4) (h : writeA s r p c = (s', r', false)) : s' = s ∧ r' = r := by
  obtain ⟨h1, h2, _⟩ := paths7_ok p hp
  obtain ⟨ps, hps⟩ := Option.isSome_iff_exists.1 h1
  unfold writeA at h
  rw [hs, conts4_ok c hc, Bool.true_and, if_pos rfl, hps] at h
  cases ps with
  | nil => exact absurd hps h2
  | cons n t =>
    simp only at h
    split at h
    · simp at h
    · simp only [Prod.mk.injEq, and_true] at h; exact ⟨h.1.symm, h.2.symm⟩
theorem path7_names {p : Bs} (hp : p ∈ paths7) : ∀ ps, pathP p = some ps → ∀ n ∈ ps, NoZ n := fun ps h n hn => by
  have := (paths7_ok p hp).2.2 n
  rw [h] at this
  exact this hn
theorem step_keeps {s s' : List Pc} {r r' : Int} (h : StepS s r s' r') (hs : storeV s = true) (hg : Good NoZ s) : storeV s' = true ∧ Good NoZ s' := by
  rcases h with ⟨rfl, rfl⟩ | ⟨path, hp, ⟨b, h⟩ | ⟨c, hc, b, h⟩⟩
  · exact ⟨hs, hg⟩
  · cases b
    · obtain ⟨rfl, rfl⟩ := dropA_no hs hp h; exact ⟨hs, hg⟩
    · exact ⟨(drop_chg h).valid, drop_good h hg (path7_names hp)⟩
  · cases b
    · obtain ⟨rfl, rfl⟩ := writeA_no hs hp hc h; exact ⟨hs, hg⟩
    · exact ⟨(write_chg h).valid, write_good h hg (path7_names hp)⟩
theorem drawnS_ok {k : Nat} {s : List Pc} {r : Int} (h : DrawnS k s r) : storeV s = true ∧ Good NoZ s := by
  induction h with
  | base =>
    have h1 : (newA []).2 = true := by decide +kernel
    have h2 := newA_good (good_nil NoZ)
    have h3 := newA_ok h1
    have e : (newA []).1.ps = (putT [] foldE).1 := by
      unfold newA at h1 ⊢
      split
      · rfl
      · rename_i hn; rw [if_neg hn] at h1; cases h1
    rw [e] at h2
    refine ⟨?_, h2⟩
    rw [← e]
    exact (archV_iff.1 h3.1).1
  | step _ hst ih => exact step_keeps hst ih.1 ih.2
/-! ### a piece turned -/
theorem turned_print {s : List Pc} {k : Nat} {p : Int} (hk : k < s.length) (hs : storeV s = true) (h : storeV (s.set k (p, s[k].2)) = true) : s.set k (p, s[k].2) = s := by
  have h1 := (pieceOk_iff.1 (storeV_piece hs (List.getElem_mem hk))).2
  have h2 : prOf (tx s[k].2) = p := (pieceOk_iff.1 (storeV_piece h (List.mem_set hk _))).2
  rw [← h2, h1]
  exact List.set_getElem_self hk
theorem turned_text {N : Bs → Prop} {s : List Pc} {k : Nat} {t : ByteArray} (hk : k < s.length) (hs : storeV s = true) (hg : Good N s) (ht : readF (tx t) = none) (h : storeV (s.set k (s[k].1, t)) = true) : Good N (s.set k (s[k].1, t)) := by
  have hso := storeV_sorted hs
  have hso' := storeV_sorted h
  have hthere : ∀ q, (getT s q).isSome = true → (getT (s.set k (s[k].1, t)) q).isSome = true := fun q hq => by
    obtain ⟨u, hu⟩ := Option.isSome_iff_exists.1 hq
    obtain ⟨i, hi, hie⟩ := List.getElem_of_mem (getT_some hu)
    by_cases e : i = k
    · subst e
      have : (q, t) ∈ s.set i (s[i].1, t) := by
        have h2 := List.mem_set hi (s[i].1, t)
        rwa [show s[i].1 = q by rw [hie]] at h2 ⊢
      rw [getT_mem hso' this]; rfl
    · have : (q, u) ∈ s.set k (s[k].1, t) := by
        rw [List.mem_iff_getElem]
        exact ⟨i, by rw [List.length_set]; exact hi, by rw [List.getElem_set_ne (fun h => e h.symm)]; exact hie⟩
      rw [getT_mem hso' this]; rfl
  intro p l hf e he
  unfold folderOf at hf
  obtain ⟨u, hu, hr⟩ := Option.bind_eq_some_iff.1 hf
  rcases List.mem_or_eq_of_mem_set (getT_some hu) with hm | hm
  · have hf2 : folderOf s p = some l := by unfold folderOf; rw [getT_mem hso hm]; exact hr
    obtain ⟨h1, h2⟩ := hg p l hf2 e he
    exact ⟨hthere _ h1, h2⟩
  · injection hm with h1 h2
    subst h2
    rw [ht] at hr; cases hr
theorem twice_bad {s : List Pc} (h : s ≠ []) : storeV (s ++ [s[0]'(List.length_pos_iff.2 h)]) = false := by
  cases hv : storeV (s ++ [s[0]'(List.length_pos_iff.2 h)])
  · rfl
  · have := storeV_sorted hv
    unfold Sorted at this
    rw [List.pairwise_append] at this
    have h2 := this.2.2 (s[0]'(List.length_pos_iff.2 h)) (List.getElem_mem _) (s[0]'(List.length_pos_iff.2 h)) (by simp)
    omega
end Go.Proofs.YtedcgbmdfmgcgaaGreatDoor
