/- Texts in one: Ft, Em, Nwp, Mx, Wo, Qt, Nu, Rw, Gt, Rpc. -/
import Derived.Test.YtokelopllbaikaaGreatDoorEv
import Derived.Test.YtokelopllbaikaaGreatDoorGb1
import Derived.Test.YtokelopllbaikaaGreatDoorPs
import Derived.Test.YtokelopllbaikaaGreatDoorGa4
import Derived.Test.YtokelopllbaikaaGreatDoorGa1
import Derived.Test.YtokelopllbaikaaGreatDoorGa0
import Derived.Test.YtokelopllbaikaaGreatDoorGa5
import Derived.Test.YtokelopllbaikaaGreatDoorGa3
import Derived.Test.YtokelopllbaikaaGreatDoorShelf
import Derived.Test.YtokelopllbaikaaGreatDoorGa6
import Derived.Test.YtokelopllbaikaaGreatDoorRd
import Derived.Test.YtokelopllbaikaaGreatDoorGb0
/- FolderText, EmptyRoot, walked. -/
set_option linter.unusedVariables false
namespace Go.Proofs.YtokelopllbaikaaGreatDoor
open Go.RowKit
def entM (e : En) : ByteArray := e.1 ++ ⟨#[61]⟩ ++ mk (hexT e.2) ++ ⟨#[59]⟩
theorem entM_tx (e : En) : entM e = mk (entT e) := by
  unfold entM entT
  rw [show e.1 = mk (tx e.1) from (mk_tx _).symm, show (⟨#[61]⟩ : ByteArray) = mk [61] from rfl, show (⟨#[59]⟩ : ByteArray) = mk [59] from rfl, mk_append, mk_append, mk_append]
  simp [tx_mk]
def foldM (l : List En) : ByteArray := mk (100 :: l.flatMap entT)
theorem foldM_take {l : List En} {k : Nat} (h : k < l.length) : foldM (l.take (k + 1)) = foldM (l.take k) ++ entM l[k] := by
  unfold foldM
  rw [List.take_succ_eq_append_getElem h, entM_tx, mk_append, List.flatMap_append]
  simp only [List.flatMap_cons, List.flatMap_nil, List.append_nil, List.cons_append]
theorem foldM_size {l : List En} (h : entsV l = true) (k : Nat) : (foldM (l.take k)).size ≤ 49 := by
  have h2 := foldB_len (entsV_sub h (List.take_sublist k l))
  unfold foldB at h2
  unfold foldM; rw [mk_size]; exact h2
theorem cat4 (x a b c d : ByteArray) : x ++ (a ++ b ++ c ++ d) = x ++ a ++ b ++ c ++ d := by simp [ByteArray.append_assoc]
set_option maxHeartbeats 4000000 in
set_option maxRecDepth 100000 in
theorem iFolderText_any (A : Option Addr) (c : Nat) (l : List En) (w : World) (hs : Sl w encE 2 A l) (hl : l.length ≤ 16777216) (hf : FitE l) (ht : TzL w) :
    Calls Tryz.prog 45 #[.slice A l.length c] w fun e w' => e = .returned (.string (mk (foldT l))) ∧ Below w.heap.size w w' := by
  have HS := Lib.hid hs
  have HF := Lib.hid hf
  have HT := Lib.hid ht
  have hsv := fun w h => iEntriesValid_any A c l w h hl hf
  clear hs hf ht
  cases hv : entsV l
  · have E := Lib.hid (show mk (foldT l) = ⟨#[]⟩ by unfold foldT; rw [hv]; rfl)
    rw [hv] at hsv
    have HSV := Lib.hid hsv
    clear hsv hv
    rw [E.out]
    go_enter Tryz.func45, Tryz.ntmps45
    go_wp2_with fail
    refine (HSV.out _ HS.out).mono ?_
    rintro e w1 ⟨rfl, hb⟩
    have HB := Lib.hid hb
    clear hb
    go_wp2
    go_ret
    exact ⟨rfl, HB.out⟩
  · have E := Lib.hid (show mk (foldT l) = foldM l by unfold foldT; rw [hv]; rfl)
    rw [hv] at hsv
    have HSV := Lib.hid hsv
    have HSZ := Lib.hid (foldM_size hv)
    have HOK := Lib.hid (fun k (h : k < l.length) => entT_len l[k] (entsV_ok hv (by simp)))
    have hl3 := entsV_len hv
    clear hsv hv
    rw [E.out]
    go_enter Tryz.func45, Tryz.ntmps45
    go_wp2_with fail
    refine (HSV.out _ HS.out).mono ?_
    rintro e w1 ⟨rfl, hb⟩
    have HB := Lib.hid hb
    have HS1 := Lib.hid (HS.out.below hb)
    have HT1 := Lib.hid (HT.out.below hb)
    clear hb
    go_wp2_with fail
    go_loopw [3, 11] (fun v i wr => ∃ (k : Nat) (acc : ByteArray), k ≤ l.length ∧ i = .int .i64 k ∧ v = .string acc ∧ Hid (acc = foldM (l.take k)) ∧ Hid (Below w1.heap.size w1 wr)) (fun _ i _ => l.length - (intOf i).toNat)
    case atStart => exact ⟨0, _, Nat.zero_le _, rfl, rfl, rfl, Below.refl _ _⟩
    case round =>
      obtain ⟨k, acc, hk, rfl, rfl, HA, HBW⟩ := hrel
      by_cases hlt : k < l.length
      · obtain ⟨b, o, rfl, hc0, hc1⟩ := (HS1.out.below HBW.out).getE hlt
        have hst := foldM_take hlt
        have hacc : acc.size ≤ 49 := by rw [HA.out]; exact HSZ.out k
        have HT2 := Lib.hid (HT1.out.below HBW.out)
        have hfk : l[k].1.size ≤ 16777216 := HF.out.at hlt
        generalize l[k] = p at *
        obtain ⟨t, a⟩ := p
        simp only at *
        have hz1 : (mk (hexT a)).size ≤ 6 := by rw [mk_size]; exact hexT_len a
        have hz2 : (t ++ ⟨#[61]⟩).size ≤ 16777217 := by rw [ByteArray.size_append]; exact Nat.add_le_add_right hfk 1
        have hz3 : (t ++ ⟨#[61]⟩ ++ mk (hexT a)).size ≤ 16777223 := by rw [ByteArray.size_append]; exact Nat.add_le_add hz2 hz1
        have hz4 : (t ++ ⟨#[61]⟩ ++ mk (hexT a) ++ ⟨#[59]⟩).size ≤ 16777224 := by rw [ByteArray.size_append]; exact Nat.add_le_add_right hz3 1
        have hq1 := str_add (x := t) (y := ⟨#[61]⟩) (by omega) (by simp [ByteArray.size])
        have hq2 := str_add (x := t ++ ⟨#[61]⟩) (y := mk (hexT a)) (by omega) (by omega)
        have hq3 := str_add (x := t ++ ⟨#[61]⟩ ++ mk (hexT a)) (y := ⟨#[59]⟩) (by omega) (by simp [ByteArray.size])
        have hq4 := str_add (x := acc) (y := t ++ ⟨#[61]⟩ ++ mk (hexT a) ++ ⟨#[59]⟩) (by omega) (by omega)
        have HH := Lib.hid (fun w h => iHexText_any a w h)
        have HN := Lib.hid (show acc ++ (t ++ ⟨#[61]⟩ ++ mk (hexT a) ++ ⟨#[59]⟩) = foldM (l.take (k + 1)) by rw [hst, HA.out]; rfl)
        have HB2 := Lib.hid (HBW.out.alloc HBW.out.size (.cells #[.string t, .int .i64 a] 70))
        have HT3 := Lib.hid (fun p => (HT2.out.below ((Below.refl _ _).alloc (Nat.le_refl _) (.cells #[.string t, .int .i64 a] 70))).below (far_below _ p))
        have hx0 := far_cell (new_cell (w := wr) (cs := #[.string t, .int .i64 a]) (E := 70) (k := 0) rfl)
        have hx1 := far_cell (new_cell (w := wr) (cs := #[.string t, .int .i64 a]) (E := 70) (k := 1) rfl)
        clear hst
        go_wp2
        refine wp_region_far (by kernel_rfl) (by kernel_rfl) ?_
        repeat (go_big_quiet_step ((go_at_call 79; exact far_call (HH.out _ (HT3.out _)))))
        refine wpQuiet_nil ?_
        intro _ hwF
        obtain ⟨pF, hwF⟩ := hwF
        subst hwF
        have HB5 := Lib.hid (Below_then HB2.out (far_below _ pF) (Nat.le_refl _))
        generalize far _ pF = wF at *
        clear hx0 hx1
        go_wp2
        go_roundw
        case rel => exact ⟨k + 1, _, by omega, by go_num, rfl, HN.out, HB5.out⟩
        case measure => simp [intOf]; omega
      · have HE := Lib.hid (show acc = foldM l by rw [HA.out, List.take_of_length_le (by omega)])
        have HB2 := Lib.hid (Below_then HB.out HBW.out (Nat.le_refl _))
        go_wp2
        go_ret
        exact ⟨ret_str HE.out, HB2.out⟩
set_option maxHeartbeats 4000000 in
set_option maxRecDepth 100000 in
theorem sFolderText_any (A : Option Addr) (c : Nat) (l : List En) (w : World) (hs : Sl w encE 2 A l) (hl : l.length ≤ 16777216) (hf : FitE l) :
    Calls Tryz.prog 86 #[.slice A l.length c] w fun e w' => e = .returned (.string (mk (foldT l))) ∧ Below w.heap.size w w' := by
  have HS := Lib.hid hs
  have HF := Lib.hid hf
  have hsv := fun w h => sEntriesValid_any A c l w h hl hf
  clear hs hf
  cases hv : entsV l
  · have E := Lib.hid (show mk (foldT l) = ⟨#[]⟩ by unfold foldT; rw [hv]; rfl)
    rw [hv] at hsv
    have HSV := Lib.hid hsv
    clear hsv hv
    rw [E.out]
    go_enter Tryz.func86, Tryz.ntmps86
    go_wp2_with fail
    refine (HSV.out _ HS.out).mono ?_
    rintro e w1 ⟨rfl, hb⟩
    have HB := Lib.hid hb
    clear hb
    go_wp2
    go_ret
    exact ⟨rfl, HB.out⟩
  · have E := Lib.hid (show mk (foldT l) = foldM l by unfold foldT; rw [hv]; rfl)
    rw [hv] at hsv
    have HSV := Lib.hid hsv
    have HSZ := Lib.hid (foldM_size hv)
    have hl3 := entsV_len hv
    clear hsv hv
    rw [E.out]
    go_enter Tryz.func86, Tryz.ntmps86
    go_wp2_with fail
    refine (HSV.out _ HS.out).mono ?_
    rintro e w1 ⟨rfl, hb⟩
    have HB := Lib.hid hb
    have HS1 := Lib.hid (HS.out.below hb)
    clear hb
    go_wp2_with fail
    go_loopw [3, 4] (fun v i wr => ∃ (k : Nat) (acc : ByteArray), k ≤ l.length ∧ i = .int .i64 k ∧ v = .string acc ∧ Hid (acc = foldM (l.take k)) ∧ Hid (Below w1.heap.size w1 wr)) (fun _ i _ => l.length - (intOf i).toNat)
    case atStart => exact ⟨0, _, Nat.zero_le _, rfl, rfl, rfl, Below.refl _ _⟩
    case round =>
      obtain ⟨k, acc, hk, rfl, rfl, HA, HBW⟩ := hrel
      by_cases hlt : k < l.length
      · obtain ⟨b, o, rfl, hc0, hc1⟩ := (HS1.out.below HBW.out).getE hlt
        have hst := foldM_take hlt
        have hacc : acc.size ≤ 49 := by rw [HA.out]; exact HSZ.out k
        have hfk : l[k].1.size ≤ 16777216 := HF.out.at hlt
        generalize l[k] = p at *
        obtain ⟨t, a⟩ := p
        simp only at *
        have hz1 : (mk (hexT a)).size ≤ 6 := by rw [mk_size]; exact hexT_len a
        have hz0 : (acc ++ t).size ≤ 16777265 := by rw [ByteArray.size_append]; omega
        have hz2 : (acc ++ t ++ ⟨#[61]⟩).size ≤ 16777266 := by rw [ByteArray.size_append]; exact Nat.add_le_add_right hz0 1
        have hz3 : (acc ++ t ++ ⟨#[61]⟩ ++ mk (hexT a)).size ≤ 16777272 := by rw [ByteArray.size_append]; exact Nat.add_le_add hz2 hz1
        have hq0 := str_add (x := acc) (y := t) (by omega) (by omega)
        have hq1 := str_add (x := acc ++ t) (y := ⟨#[61]⟩) (by omega) (by simp [ByteArray.size])
        have hq2 := str_add (x := acc ++ t ++ ⟨#[61]⟩) (y := mk (hexT a)) (by omega) (by omega)
        have hq3 := str_add (x := acc ++ t ++ ⟨#[61]⟩ ++ mk (hexT a)) (y := ⟨#[59]⟩) (by omega) (by simp [ByteArray.size])
        have HH := Lib.hid (fun w => sHexText_any a w)
        have HN := Lib.hid (show acc ++ t ++ ⟨#[61]⟩ ++ mk (hexT a) ++ ⟨#[59]⟩ = foldM (l.take (k + 1)) by rw [hst, HA.out, ← cat4]; rfl)
        replace hc0 := far_cell hc0
        replace hc1 := far_cell hc1
        clear hst
        go_wp2
        refine wp_region_far (by kernel_rfl) (by kernel_rfl) ?_
        repeat (go_big_quiet_step ((go_at_call 110; exact far_same (HH.out _))))
        refine wpQuiet_nil ?_
        intro _ hwF
        obtain ⟨pF, hwF⟩ := hwF
        subst hwF
        have HB5 := Lib.hid (Below_then HBW.out (far_below _ pF) (Nat.le_refl _))
        generalize far _ pF = wF at *
        clear hc0 hc1
        go_wp2
        go_roundw
        case rel => exact ⟨k + 1, _, by omega, by go_num, rfl, HN.out, HB5.out⟩
        case measure => simp [intOf]; omega
      · have HE := Lib.hid (show acc = foldM l by rw [HA.out, List.take_of_length_le (by omega)])
        have HB2 := Lib.hid (Below_then HB.out HBW.out (Nat.le_refl _))
        go_wp2
        go_ret
        exact ⟨ret_str HE.out, HB2.out⟩
end Go.Proofs.YtokelopllbaikaaGreatDoor

/- EmptyRoot, NewArchive, walked. -/
set_option linter.unusedVariables false
namespace Go.Proofs.YtokelopllbaikaaGreatDoor
open Go.RowKit
def foldE : ByteArray := mk (foldT [])
theorem foldE_size : foldE.size ≤ 16777216 := by unfold foldE; rw [mk_size]; have := foldT_len []; omega
theorem fitE_nil : FitE [] := fun p hp => absurd hp List.not_mem_nil
set_option maxHeartbeats 4000000 in
set_option maxRecDepth 100000 in
theorem sEmptyRoot_any (A : Option Addr) (c : Nat) (l : List Pc) (w : World) (hs : Sl w encP 2 A l) (hcz : A = none → c = 0) (hle : l.length ≤ c) (hl : l.length ≤ 16777216) (hf : FitP l) :
    Calls Tryz.prog 80 #[.slice A l.length c] w (PutRes (putT l foldE) w) := by
  have HS := Lib.hid hs
  have hft := fun g w => sFolderText_any (some ⟨g, 0, none⟩) 0 [] w Sl.none_ (Nat.zero_le _) fitE_nil
  simp only [List.length_nil] at hft
  have hpt := fun w h => sPutText_any A c l foldE w h hcz hle hl hf foldE_size
  clear hs hcz
  unfold PutRes at *
  unfold foldE at *
  generalize mk (foldT []) = FE at *
  generalize putT l FE = R at *
  have HFT := Lib.hid hft
  clear hft
  have HPT := Lib.hid hpt
  clear hpt
  go_enter Tryz.func80, Tryz.ntmps80
  go_wp2_with fail
  refine (HFT.out _ _).mono ?_
  rintro e w1 ⟨rfl, hb⟩
  have HB := Lib.hid (Below_of_alloc hb)
  have HS1 := Lib.hid (HS.out.below HB.out)
  clear hb
  go_wp2_with fail
  refine (HPT.out _ HS1.out).mono ?_
  rintro e w2 ⟨v, rfl, hown, hb⟩
  have HW := Lib.hid (hown.mono HB.out.size)
  have HB2 := Lib.hid (Below_then HB.out hb (Nat.le_refl _))
  clear hown hb
  go_wp2
  go_ret3
  exact ⟨_, rfl, HW.out, HB2.out⟩
end Go.Proofs.YtokelopllbaikaaGreatDoor

/- Walks by names, files below a root: plain lemmas for the walks of the code. -/
set_option linter.unusedVariables false
namespace Go.Proofs.YtokelopllbaikaaGreatDoor
open Go.RowKit
def walkB (s : List Pc) (p : Int) (l : List ByteArray) : Option Int := walkP s p (l.map tx)
theorem walkB_step {s : List Pc} {p : Int} {l : List ByteArray} {k : Nat} (hk : k < l.length) :
    walkB s p (l.drop k) = (folderOf s p).bind fun e => (getE e (tx l[k])).bind fun q => walkB s q (l.drop (k + 1)) := by
  rw [List.drop_eq_getElem_cons hk]; rfl
theorem walkB_none {s : List Pc} {p : Int} {l : List ByteArray} {k : Nat} (hk : k < l.length) (h : folderOf s p = none) : walkB s p (l.drop k) = none := by
  rw [walkB_step hk, h]; rfl
theorem walkB_miss {s : List Pc} {p : Int} {l : List ByteArray} {k : Nat} {e : List En} (hk : k < l.length) (h : folderOf s p = some e) (h2 : getE e (tx l[k]) = none) : walkB s p (l.drop k) = none := by
  rw [walkB_step hk, h, Option.bind_some, h2]; rfl
theorem walkB_next {s : List Pc} {p q : Int} {l : List ByteArray} {k : Nat} {e : List En} (hk : k < l.length) (h : folderOf s p = some e) (h2 : getE e (tx l[k]) = some q) : walkB s p (l.drop k) = walkB s q (l.drop (k + 1)) := by
  rw [walkB_step hk, h, Option.bind_some, h2]; rfl
theorem walkB_end {s : List Pc} {p : Int} {l : List ByteArray} {k : Nat} (hk : l.length ≤ k) : walkB s p (l.drop k) = if (getT s p).isSome then some p else none := by
  rw [List.drop_eq_nil_of_le hk]; rfl
theorem walkTo_path {s : List Pc} {root : Int} {path : Bs} (h : pathP path = none) : walkTo s root path = none := by
  unfold walkTo; rw [h]; split <;> rfl
theorem walkTo_store {s : List Pc} {root : Int} {path : Bs} (h : storeV s = false) : walkTo s root path = none := by
  unfold walkTo; rw [h]; rfl
theorem walkTo_yes {s : List Pc} {root : Int} {path : Bs} {ps : List Bs} {l : List ByteArray} (h : storeV s = true) (h2 : pathP path = some ps) (hl : l = ps.map mk) : walkTo s root path = walkB s root (l.drop 0) := by
  subst hl
  unfold walkTo walkB
  rw [h, if_pos rfl, h2, Option.bind_some, List.drop_zero, List.map_map]
  congr 1
  exact (List.map_id' _).symm
theorem getE_find {l : List En} {n : Bs} {k : Nat} (hk : k < l.length) (h : ∀ j (h : j < l.length), j < k → tx l[j].1 ≠ n) (he : tx l[k].1 = n) : getE l n = some l[k].2 := by
  unfold getE
  have : l.find? (fun x => tx x.1 == n) = some l[k] := by
    rw [List.find?_eq_some_iff_getElem]
    refine ⟨by simpa using he, k, hk, rfl, fun j hj => ?_⟩
    have := h j (by omega) hj
    simpa using this
  rw [this]; rfl
theorem getE_end {l : List En} {n : Bs} (h : ∀ j (h : j < l.length), tx l[j].1 ≠ n) : getE l n = none := by
  refine getE_none_iff.2 fun x hx => ?_
  obtain ⟨i, hi, rfl⟩ := List.getElem_of_mem hx
  exact h i hi
/-! ### files below -/
def stepF (s : List Pc) (f : Nat) (ps : List Bs) (e : En) : List Bs := if (fileOf s e.2).isSome then [joinP (ps ++ [tx e.1])] else filesP s f e.2 (ps ++ [tx e.1])
theorem filesP_succ (s : List Pc) (f : Nat) (p : Int) (ps : List Bs) : filesP s (f + 1) p ps = ((folderOf s p).getD []).flatMap (stepF s f ps) := rfl
def accF (s : List Pc) (f : Nat) (ps : List Bs) (l : List En) (k : Nat) : List ByteArray := ((l.take k).flatMap (stepF s f ps)).map mk
theorem accF_next {s : List Pc} {f : Nat} {ps : List Bs} {l : List En} {k : Nat} (hk : k < l.length) : accF s f ps l (k + 1) = accF s f ps l k ++ (stepF s f ps l[k]).map mk := by
  unfold accF
  rw [← List.take_append_getElem hk, List.flatMap_append, List.map_append]
  congr 2
  simp
theorem accF_all {s : List Pc} {f : Nat} {ps : List Bs} {l : List En} {k : Nat} (hk : l.length ≤ k) : accF s f ps l k = (l.flatMap (stepF s f ps)).map mk := by
  unfold accF; rw [List.take_of_length_le hk]
theorem folder_len {s : List Pc} {p : Int} : ((folderOf s p).getD []).length ≤ 3 := by
  cases h : folderOf s p with
  | none => simp
  | some l => exact entsV_len (folder_valid h)
theorem flatMap_len {α β : Type} (g : α → List β) (n : Nat) : ∀ l : List α, (∀ x ∈ l, (g x).length ≤ n) → (l.flatMap g).length ≤ n * l.length
  | [], _ => by simp
  | x :: r, h => by
    have h1 := h x (by simp)
    have h2 := flatMap_len g n r fun y hy => h y (by simp [hy])
    rw [List.flatMap_cons, List.length_append, List.length_cons, Nat.mul_succ]; omega
theorem filesP_len (s : List Pc) : ∀ (f : Nat) (p : Int) (ps : List Bs), (filesP s f p ps).length ≤ 3 ^ f
  | 0, _, _ => by simp [filesP]
  | f + 1, p, ps => by
    rw [filesP_succ]
    have h1 := flatMap_len (stepF s f ps) (3 ^ f) ((folderOf s p).getD []) fun e _ => by
      unfold stepF
      have hp : 0 < 3 ^ f := Nat.pow_pos (by omega)
      split
      · exact hp
      · exact filesP_len s f _ _
    have h2 := folder_len (s := s) (p := p)
    rw [Nat.pow_succ]
    exact Nat.le_trans h1 (Nat.mul_le_mul_left _ h2)
theorem stepF_len (s : List Pc) (f : Nat) (ps : List Bs) (e : En) : (stepF s f ps e).length ≤ 3 ^ f := by
  unfold stepF
  have hp : 0 < 3 ^ f := Nat.pow_pos (by omega)
  split
  · exact hp
  · exact filesP_len s f _ _
theorem accF_len {s : List Pc} {f : Nat} {ps : List Bs} {l : List En} {k : Nat} (h : l.length ≤ 3) : (accF s f ps l k).length ≤ 3 ^ f * 3 := by
  unfold accF
  rw [List.length_map]
  refine Nat.le_trans (flatMap_len _ (3 ^ f) _ fun e _ => stepF_len s f ps e) (Nat.mul_le_mul_left _ ?_)
  rw [List.length_take]; omega
theorem joinB_len : ∀ (ps : List Bs), (∀ p ∈ ps, wordV p = true) → (joinB ps).length ≤ 9 * ps.length
  | [], _ => by simp [joinB]
  | p :: r, h => by
    have h1 := h p (by simp)
    have h2 := joinB_len r fun x hx => h x (by simp [hx])
    unfold wordV at h1
    rw [Bool.and_eq_true, Bool.and_eq_true, decide_eq_true_eq] at h1
    unfold joinB at h2 ⊢
    rw [List.flatMap_cons, List.length_append, List.length_cons, List.length_cons]; omega
theorem joinP_len (ps : List Bs) : (joinP ps).length ≤ 27 := by
  unfold joinP
  split
  · rename_i h
    obtain ⟨h1, h2⟩ := partsV_iff.1 h
    split
    · simp
    · have := joinB_len ps h2; omega
  · simp
theorem filesP_size (s : List Pc) : ∀ (f : Nat) (p : Int) (ps : List Bs), ∀ x ∈ filesP s f p ps, x.length ≤ 27
  | 0, _, _, x, hx => by cases hx
  | f + 1, p, ps, x, hx => by
    rw [filesP_succ] at hx
    obtain ⟨e, _, hx⟩ := List.mem_flatMap.1 hx
    unfold stepF at hx
    split at hx
    · rw [List.mem_singleton] at hx; subst hx; exact joinP_len _
    · exact filesP_size s f _ _ x hx
theorem allF_len (s : List Pc) (root : Int) : (allF s root).length ≤ 27 := by
  unfold allF; split
  · exact filesP_len s 3 root []
  · simp
theorem allF_size (s : List Pc) (root : Int) : ∀ x ∈ allF s root, x.length ≤ 27 := by
  unfold allF; split
  · exact filesP_size s 3 root []
  · simp
/-! ### the reference's files -/
theorem specF_file {s : List Pc} {p : Int} {ps : List Bs} (h : (fileOf s p).isSome = true) (hp : ps ≠ []) : specF s p ps = [joinP ps] := by
  unfold specF
  rw [h, if_pos]; cases ps with
  | nil => exact absurd rfl hp
  | cons => rfl
theorem specF_long {s : List Pc} {p : Int} {ps : List Bs} (h : (fileOf s p).isSome = false ∨ ps = []) (hl : 3 ≤ ps.length) : specF s p ps = [] := by
  unfold specF
  rw [if_neg]
  · rw [show 3 - ps.length = 0 by omega]; rfl
  · rcases h with h | h
    · rw [h]; simp
    · subst h; simp
theorem specF_step {s : List Pc} {ps : List Bs} {e : En} (hl : ps.length < 3) : specF s e.2 (ps ++ [tx e.1]) = stepF s (2 - ps.length) ps e := by
  unfold specF stepF
  rw [show (ps ++ [tx e.1]).isEmpty = false by cases ps <;> rfl, List.length_append, List.length_singleton, show 3 - (ps.length + 1) = 2 - ps.length by omega]
  simp
theorem specF_folder {s : List Pc} {p : Int} {ps : List Bs} (h : (fileOf s p).isSome = false ∨ ps = []) (hl : ps.length < 3) : specF s p ps = ((folderOf s p).getD []).flatMap (stepF s (2 - ps.length) ps) := by
  unfold specF
  rw [if_neg]
  · rw [show 3 - ps.length = (2 - ps.length) + 1 by omega]; rfl
  · rcases h with h | h
    · rw [h]; simp
    · subst h; simp
theorem specF_root (s : List Pc) (root : Int) : specF s root [] = filesP s 3 root [] := by
  unfold specF; simp
theorem specF_len (s : List Pc) (p : Int) (ps : List Bs) : (specF s p ps).length ≤ 27 := by
  unfold specF; split
  · simp
  · refine Nat.le_trans (filesP_len s _ p ps) ?_
    exact Nat.pow_le_pow_right (n := 3) (by omega) (show 3 - ps.length ≤ 3 by omega)
end Go.Proofs.YtokelopllbaikaaGreatDoor

/- The library's variable MaxLen. -/
set_option linter.unusedVariables false
namespace Go.Proofs.YtokelopllbaikaaGreatDoor
open Go.RowKit
/-- The library's own variable holds some number. -/
def MaxL (w : World) : Prop := ∃ m, w.cell? ⟨0, 0, none⟩ = some (.int .i64 m)
theorem MaxL.below {w w' : World} (h : MaxL w) (hb : Below w.heap.size w w') : MaxL w' := by
  obtain ⟨m, hm⟩ := h; exact ⟨m, Below_cells hb _ _ _ hm⟩
theorem MaxL.lt {w : World} (h : MaxL w) : 0 < w.heap.size := by
  obtain ⟨m, hm⟩ := h; exact World.block_lt_of_cell? w _ hm
end Go.Proofs.YtokelopllbaikaaGreatDoor

/- Words of a text, walked. -/
set_option linter.unusedVariables false
namespace Go.Proofs.YtokelopllbaikaaGreatDoor
open Go.RowKit

end Go.Proofs.YtokelopllbaikaaGreatDoor

/- Quotas: rows, plain. -/
set_option linter.unusedVariables false
namespace Go.Proofs.YtokelopllbaikaaGreatDoor
open Go.RowKit
end Go.Proofs.YtokelopllbaikaaGreatDoor

/- Sizes below paths, files with a word, quotas that are passed: plain lemmas for the walks of the code. -/
set_option linter.unusedVariables false
namespace Go.Proofs.YtokelopllbaikaaGreatDoor
open Go.RowKit
theorem fileOf_len {s : List Pc} {p : Int} {t : Bs} (h : fileOf s p = some t) : t.length ≤ 40 := by
  unfold fileOf at h
  obtain ⟨u, _, h2⟩ := Option.bind_eq_some_iff.1 h
  have := (readFi_iff.1 h2).2
  unfold contV at this
  rw [Bool.and_eq_true, decide_eq_true_eq] at this; exact this.2
theorem readAt_len (s : List Pc) (root : Int) (p : Bs) : ((readAt s root p).getD []).length ≤ 40 := by
  cases h : readAt s root p with
  | none => simp
  | some t =>
    unfold readAt at h
    obtain ⟨q, _, h2⟩ := Option.bind_eq_some_iff.1 h
    exact fileOf_len h2
def filesB (s : List Pc) (root : Int) : List ByteArray := (allF s root).map mk
theorem filesB_len (s : List Pc) (root : Int) : (filesB s root).length ≤ 27 := by unfold filesB; rw [List.length_map]; exact allF_len s root
theorem filesB_size (s : List Pc) (root : Int) : ∀ x ∈ filesB s root, x.size ≤ 27 := by
  intro x hx
  unfold filesB at hx
  obtain ⟨y, hy, rfl⟩ := List.mem_map.1 hx
  rw [mk_size]; exact allF_size s root y hy
theorem filesB_bs (s : List Pc) (root : Int) : (filesB s root).map bs = allF s root := by
  unfold filesB
  rw [List.map_map]
  exact (List.map_congr_left fun x _ => rfl).trans (List.map_id _)
/-- What the first k files below a path have. -/
def useUpto (s : List Pc) (root : Int) (path : Bs) (l : List ByteArray) (k : Nat) : Int := sizeOf' s root (((l.take k).map bs).filter fun f => belowP f path)
theorem useUpto_zero (s : List Pc) (root : Int) (path : Bs) (l : List ByteArray) : useUpto s root path l 0 = 0 := rfl
theorem useUpto_yes {s : List Pc} {root : Int} {path : Bs} {l : List ByteArray} {k : Nat} (hk : k < l.length) (h : belowP (bs l[k]) path = true) :
    useUpto s root path l (k + 1) = useUpto s root path l k + ((mk ((readAt s root (bs l[k])).getD [])).size : Int) := by
  unfold useUpto sizeOf'
  rw [List.take_succ_eq_append_getElem hk, List.map_append, List.filter_append, List.foldl_append, List.map_cons, List.map_nil, List.filter_cons, h, if_pos rfl, List.filter_nil, List.foldl_cons, List.foldl_nil, mk_size]
  rfl
theorem useUpto_no {s : List Pc} {root : Int} {path : Bs} {l : List ByteArray} {k : Nat} (hk : k < l.length) (h : belowP (bs l[k]) path = false) :
    useUpto s root path l (k + 1) = useUpto s root path l k := by
  unfold useUpto sizeOf'
  rw [List.take_succ_eq_append_getElem hk, List.map_append, List.filter_append, List.map_cons, List.map_nil, List.filter_cons, h]
  simp
theorem useUpto_bd (s : List Pc) (root : Int) (path : Bs) (l : List ByteArray) : ∀ k, k ≤ l.length → 0 ≤ useUpto s root path l k ∧ useUpto s root path l k ≤ 40 * k
  | 0, _ => by rw [useUpto_zero]; omega
  | k + 1, hk => by
    have ih := useUpto_bd s root path l k (by omega)
    cases h : belowP (bs l[k]) path
    · rw [useUpto_no (by omega) h]; omega
    · rw [useUpto_yes (by omega) h, mk_size]
      have := readAt_len s root (bs l[k])
      omega
theorem useUpto_all {s : List Pc} {root : Int} {path : Bs} {k : Nat} (hp : (pathP path).isSome = true) (hv : storeV s = true) (hk : (filesB s root).length ≤ k) : useUpto s root path (filesB s root) k = usedP s root path := by
  unfold useUpto usedP
  rw [List.take_of_length_le hk, filesB_bs, hp, hv]; rfl
theorem usedP_path {s : List Pc} {root : Int} {path : Bs} (h : (pathP path).isSome = false) : usedP s root path = -1 := by unfold usedP; rw [h]; rfl
theorem usedP_store {s : List Pc} {root : Int} {path : Bs} (h : storeV s = false) : usedP s root path = -1 := by unfold usedP; rw [h]; simp
/-! ### files with a word -/
/-! ### quotas that are passed -/
/-! ### one path below another -/
theorem belowP_no {a b : Bs} (h : pathP a = none ∨ pathP b = none) : belowP a b = false := by
  unfold belowP
  rcases h with h | h
  · rw [h]
  · rw [h]; cases pathP a <;> rfl
theorem belowP_yes {a b : Bs} {x y : List Bs} (h : pathP a = some x) (h2 : pathP b = some y) : belowP a b = y.isPrefixOf x := by
  unfold belowP; rw [h, h2]
theorem prefix_len {x y : List Bs} (h : ¬ y.length ≤ x.length) : y.isPrefixOf x = false := by
  cases hp : y.isPrefixOf x
  · rfl
  · exact absurd (List.isPrefixOf_iff_prefix.1 hp).length_le h
theorem prefix_take {x y : List Bs} (h : y.length ≤ x.length) : y.isPrefixOf x = decide (x.take y.length = y) := by
  rw [Bool.eq_iff_iff, List.isPrefixOf_iff_prefix, decide_eq_true_eq, List.prefix_iff_eq_take]
  exact eq_comm
theorem below_long {a b : Bs} {x y : List Bs} (h : pathP a = some x) (h2 : pathP b = some y) (hl : ¬ (y.map mk).length ≤ (x.map mk).length) : belowP a b = false := by
  rw [belowP_yes h h2]
  rw [List.length_map, List.length_map] at hl
  exact prefix_len hl
theorem below_eq {a b : Bs} {x y : List Bs} (h : pathP a = some x) (h2 : pathP b = some y) (hl : (y.map mk).length ≤ (x.map mk).length) : belowP a b = decide (((x.map mk).take (y.map mk).length).map bs = (y.map mk).map bs) := by
  rw [belowP_yes h h2]
  rw [List.length_map, List.length_map] at hl
  rw [prefix_take hl, List.map_take, List.map_map, List.map_map, List.length_map]
  rw [show x.map (bs ∘ mk) = x from (List.map_congr_left fun z _ => rfl).trans (List.map_id _), show y.map (bs ∘ mk) = y from (List.map_congr_left fun z _ => rfl).trans (List.map_id _)]
def eqL (l m : List ByteArray) : Bool := decide (l.map bs = m.map bs)
theorem eqL_len {l m : List ByteArray} (h : l.length ≠ m.length) : eqL l m = false := by
  unfold eqL; exact decide_eq_false fun e => h (by have := congrArg List.length e; simpa using this)
theorem eqL_ne {l m : List ByteArray} (k : Nat) (h1 : k < l.length) (h2 : k < m.length) (h : bs l[k] ≠ bs m[k]) : eqL l m = false := by
  unfold eqL
  refine decide_eq_false fun e => h ?_
  have : (l.map bs)[k]? = (m.map bs)[k]? := by rw [e]
  rw [List.getElem?_map, List.getElem?_map, List.getElem?_eq_getElem h1, List.getElem?_eq_getElem h2] at this
  injection this
theorem eqL_all {l m : List ByteArray} (h : l.length = m.length) (h2 : ∀ k (h1 : k < l.length) (h2 : k < m.length), bs l[k] = bs m[k]) : eqL l m = true := by
  unfold eqL
  refine decide_eq_true (List.ext_getElem (by simpa using h) fun k h3 h4 => ?_)
  rw [List.getElem_map, List.getElem_map]
  exact h2 k (by simpa using h3) (by simpa using h4)
end Go.Proofs.YtokelopllbaikaaGreatDoor

/- Rows of structs: one element written anew; repaired pieces, walked. -/
set_option linter.unusedVariables false
namespace Go.Proofs.YtokelopllbaikaaGreatDoor
open Go.RowKit

theorem setAll_cells {g : Nat} {E : TypeId} {m : Nat × Nat} : ∀ (us : List Value) (w : World) (j : Nat) (cs : Array Value), w.heap[g]? = some (.cells cs E (0, 0)) →
    ∃ cs' : Array Value, (setAll w g j us).heap[g]? = some (.cells cs' E (0, 0)) ∧ cs'.size = cs.size ∧ ∀ p, cs'[p]? = if j ≤ p ∧ p < j + us.length ∧ p < cs.size then us[p - j]? else cs[p]?
  | [], w, j, cs, h => ⟨cs, h, rfl, fun p => by rw [if_neg]; simp; omega⟩
  | u :: r, w, j, cs, h => by
    obtain ⟨cs', h1, h2, h3⟩ := setAll_cells (m := m) r (w.setCell ⟨g, j, none⟩ u) (j + 1) (cs.setIfInBounds j u) (heap_setCell_same w g j cs E u h)
    refine ⟨cs', h1, by rw [h2]; simp, fun p => ?_⟩
    rw [h3 p]
    simp only [Array.size_setIfInBounds, List.length_cons]
    by_cases hp : p = j
    · subst hp
      rw [if_neg (by omega)]
      by_cases hs : p < cs.size
      · rw [if_pos (by omega)]; simp [hs]
      · rw [if_neg (by omega), Array.getElem?_eq_none (by simp; omega), Array.getElem?_eq_none (by omega)]
    · rw [Array.getElem?_setIfInBounds_ne (by omega)]
      by_cases hh : j + 1 ≤ p ∧ p < j + 1 + r.length ∧ p < cs.size
      · rw [if_pos hh, if_pos (by omega)]
        have e : p - j = p - (j + 1) + 1 := by omega
        rw [e, List.getElem?_cons_succ]
      · rw [if_neg hh, if_neg (by omega)]
/-- Element i of an owned row written anew. -/
theorem Own.setEl {α : Type} {enc : α → List Value} {w : World} {base size : Nat} {E : TypeId} {g n cap : Nat} {l : List α} (h : Own w base E size enc (.slice (some ⟨g, 0, none⟩) n cap) l) (he : ∀ x, (enc x).length = size) (hsz : 0 < size) {i : Nat} (hi : i < l.length) (x : α) :
    Own (setAll w g (i * size) (enc x)) base E size enc (.slice (some ⟨g, 0, none⟩) n cap) (l.set i x) := by
  rcases h.2 with ⟨hv, hn⟩ | ⟨g', cap', cur, hv, hg, hh, hnc, hcm, hs, ht⟩
  · injection hv with e; cases e
  · injection hv with e1 e2 e3
    injection e1 with e1; injection e1 with e1
    subst e1 e2 e3
    obtain ⟨cs', h1, h2, h3⟩ := setAll_cells (m := (0, 0)) (enc x) w (i * size) cur hh
    refine ⟨flat_length he _, .inr ⟨g, cap, cs', by rw [List.length_set], hg, h1, by rw [List.length_set]; exact hnc, hcm, by rw [h2]; exact hs, ?_⟩⟩
    have hlen : (flat enc (l.set i x)).length = l.length * size := by rw [flat_length he, List.length_set]
    have hls : l.length * size ≤ cur.size := by rw [hs]; exact Nat.mul_le_mul_right _ hnc
    have hi2 : i * size + size ≤ l.length * size := by
      have := Nat.mul_le_mul_right size (show i + 1 ≤ l.length from hi)
      rwa [Nat.succ_mul] at this
    have h0 : (flat enc l).length = l.length * size := flat_length he l
    rw [List.length_set]
    apply List.ext_getElem?
    intro p
    by_cases hp : p < l.length * size
    · rw [List.getElem?_take_of_lt hp, Array.getElem?_toList, h3 p, he]
      have hq : p / size < l.length := Nat.div_lt_of_lt_mul (by rwa [Nat.mul_comm] at hp)
      have hdm : p / size * size + p % size = p := by rw [Nat.mul_comm]; exact Nat.div_add_mod p size
      have hms := Nat.mod_lt p hsz
      have hg2 := flat_get he (l.set i x) (p / size) (by rw [List.length_set]; exact hq) (p % size) hms
      rw [hdm] at hg2
      rw [hg2, List.getElem_set]
      by_cases hqi : i = p / size
      · subst hqi
        rw [if_pos rfl, if_pos (by omega)]
        congr 1; omega
      · rw [if_neg hqi, if_neg]
        · have hg3 := flat_get he l (p / size) hq (p % size) hms
          rw [hdm] at hg3
          rw [← hg3]
          have this : (cur.toList.take (l.length * size))[p]? = (flat enc l)[p]? := by rw [ht]
          rw [List.getElem?_take_of_lt hp, Array.getElem?_toList] at this
          exact this
        · intro hh
          apply hqi
          have a1 : i ≤ p / size := (Nat.le_div_iff_mul_le hsz).2 hh.1
          have a2 : p / size < i + 1 := Nat.div_lt_of_lt_mul (by rw [Nat.mul_comm, Nat.succ_mul]; exact hh.2.1)
          omega
    · rw [List.getElem?_eq_none (by simp; omega), List.getElem?_eq_none (by omega)]
theorem Own.free' {α : Type} {enc : α → List Value} {w : World} {base size : Nat} {E : TypeId} {g n cap : Nat} {l : List α} (h : Own w base E size enc (.slice (some ⟨g, 0, none⟩) n cap) l) (j : Nat) : w.frozen? ⟨g, j, none⟩ = false := by
  rcases h.2 with ⟨hv, hn⟩ | ⟨g', cap', cur, hv, hg, hh, hnc, hcm, hs, ht⟩
  · injection hv with e; cases e
  · injection hv with e1
    injection e1 with e1; injection e1 with e1
    subst e1
    exact frozen_of_row w g j cur E hh
/-- An owned row that is not empty: its head. -/
theorem Own.head {α : Type} {enc : α → List Value} {w : World} {base size : Nat} {E : TypeId} {A : Option Addr} {n c : Nat} {l : List α} (h : Own w base E size enc (.slice A n c) l) (hl : 0 < l.length) : ∃ g, A = some ⟨g, 0, none⟩ ∧ base ≤ g ∧ g < w.heap.size := by
  obtain ⟨A', c', e, _, _, hb⟩ := h.sl
  injection e with e1
  rcases hb with ⟨hz, _⟩ | ⟨g, hg, h1, h2⟩
  · subst hz; simp at hl
  · exact ⟨g, e1.trans hg, h1, h2⟩
/-! ### plain -/
end Go.Proofs.YtokelopllbaikaaGreatDoor

/- textOf and GetText of the program, walked. -/
set_option linter.unusedVariables false
namespace Go.Proofs.YtokelopllbaikaaGreatDoor
open Go.RowKit

def GtRes (r : Option ByteArray) (w : World) (e : Ending) (w' : World) : Prop := e = .returned (.tuple #[.string (r.getD ⟨#[]⟩), .bool r.isSome]) ∧ Below w.heap.size w w'
set_option maxHeartbeats 4000000 in
set_option maxRecDepth 100000 in
theorem itextOf_any (A : Option Addr) (c : Nat) (l : List Pc) (x : Int) (w : World) (hs : Sl w encP 2 A l) (hl : l.length ≤ 16777216) (hso : Sorted l) :
    Calls Tryz.prog 56 #[.slice A l.length c, .int .i64 x] w (GtRes (getT l x) w) := by
  have hX := fun w h => findPiece_any A c l x w h hl hso
  have HS := Lib.hid hs
  have hg := getT_here hso (p := x)
  clear hs
  unfold FpRes at hX
  unfold GtRes
  rw [hg]
  cases hh : hereP l x
  · rw [hh] at hX
    have HX := Lib.hid hX
    clear hX hg hso hh
    go_enter Tryz.func56, Tryz.ntmps56
    go_wp2_with fail
    refine (HX.out _ HS.out).mono ?_
    rintro e w1 ⟨rfl, hb⟩
    have HB := Lib.hid hb
    clear hb
    go_wp2
    go_ret2
    exact ⟨rfl, HB.out⟩
  · have hlt : below l x < l.length := by unfold hereP at hh; simp at hh; exact hh.1
    rw [hh] at hX
    rw [getD_pc hlt]
    have HX := Lib.hid hX
    have HG := Lib.hid (fun (w : World) (h : Sl w encP 2 A l) => h.getP hlt)
    generalize l[below l x] = q at *
    obtain ⟨a, t⟩ := q
    simp only at *
    generalize below l x = B at *
    obtain ⟨b, o, rfl, _, _⟩ := HG.out w HS.out
    clear hX hg hso hh
    go_enter Tryz.func56, Tryz.ntmps56
    go_wp2_with fail
    refine (HX.out _ HS.out).mono ?_
    rintro e w1 ⟨rfl, hb⟩
    have HB := Lib.hid hb
    obtain ⟨b', o', e', hc0, hc1⟩ := HG.out _ (HS.out.below hb)
    have hbb : b' = b ∧ o' = o := by injection e' with e'; injection e' with e1 e2; exact ⟨e1.symm, e2.symm⟩
    obtain ⟨rfl, rfl⟩ := hbb
    clear hb e'
    go_wp2
    go_ret2
    exact ⟨rfl, HB.out⟩
end Go.Proofs.YtokelopllbaikaaGreatDoor

/- RightPieces, walked. Written by gen_rp.py. -/
set_option linter.unusedVariables false
namespace Go.Proofs.YtokelopllbaikaaGreatDoor
open Go.RowKit

end Go.Proofs.YtokelopllbaikaaGreatDoor
