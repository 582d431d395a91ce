/- Written by merge.py: Pp, Wp, Ws, Shelf, Mx, Ct, Rf, En, Be, Tr, Tr2, Tp, Tr3, Pr, Sto, Ev, Co, In, Bs, Pt, Inv. -/
import Derived.Lib.Split
import Derived.Shelf.Strings.Builder1
import Derived.Shelf.Strings.Builder2
import Derived.Shelf.Strings.OnBuilder
import Derived.Shelf.Small.Wraps
import Derived.Shelf.Strings.BuilderF
import Derived.Shelf.Strings.Search1
import Derived.Shelf.Strings.Search2
import Derived.Shelf.Strings.Search3
import Derived.Shelf.Strings.Cut
import Derived.Shelf.Strings.Count
import Derived.Shelf.LaysM
import Derived.Shelf.Strings.Shaped
import Derived.Shelf.Strings.Prefix
import Derived.Shelf.Strings.Split
import Derived.Shelf.Unicode.Decode
import Derived.Shelf.Strings.RuneCount
import Derived.Shelf.Strings.Explode
import Derived.Shelf.Unicode.DecodeSlow
import Derived.Test.YtaeaccakkielmaaDoorProg
import Derived.Lib.IndexBytes
import Derived.Shelf.Abstract
import Derived.Laws.CopyRow
import Derived.Laws.IdiomCopy
import Derived.Lib.AppendZerosOnto
import Derived.Lib.Overlaps
import Derived.Shelf.Spec.SlicesInsert
import Derived.Laws.CopyOwn
import Derived.Test.YtaeaccakkielmaaDoorMgExactQuotasValid2
/- PathParts of the reference, walked. -/
set_option linter.unusedVariables false
namespace Go.Proofs.YtaeaccakkielmaaDoor
open Go.RowKit
def scanS (acc : List Bs) (c : UInt8) : List Bs := if c = 47 then acc ++ [[]] else acc.set (acc.length - 1) (acc.getLastD [] ++ [c])
def scanL (s : Bs) : List Bs := s.foldl scanS []
theorem scanS_cons {L : List Bs} (p : Bs) (c : UInt8) (hL : L ≠ []) : scanS (p :: L) c = p :: scanS L c := by
  cases L with
  | nil => exact absurd rfl hL
  | cons q r =>
    unfold scanS
    split
    · rfl
    · simp [List.getLastD_eq_getLast?]
theorem splitS_snoc (c : UInt8) : ∀ a : Bs, splitS 47 (a ++ [c]) = scanS (splitS 47 a) c
  | [] => by
    rw [List.nil_append, splitS, splitS]
    unfold scanS
    split <;> simp [splitS]
  | x :: r => by
    have ih := splitS_snoc c r
    rw [List.cons_append, splitS, splitS]
    split
    · rw [ih, scanS_cons _ _ (splitS_ne 47 r)]
    · rw [ih]
      cases hs : splitS 47 r with
      | nil => exact absurd hs (splitS_ne 47 r)
      | cons p ps =>
        cases ps with
        | nil =>
          unfold scanS
          by_cases hc : c = 47 <;> simp [hc]
        | cons q t =>
          have hn : q :: t ≠ [] := by simp
          rw [scanS_cons p c hn]
          show (x :: p) :: scanS (q :: t) c = scanS ((x :: p) :: q :: t) c
          rw [scanS_cons (x :: p) c hn]
theorem scan_split : ∀ (r a : Bs), r.foldl scanS (splitS 47 a) = splitS 47 (a ++ r)
  | [], a => by rw [List.append_nil]; rfl
  | c :: r, a => by
    rw [List.foldl_cons, ← splitS_snoc, scan_split r, List.append_assoc]; rfl
theorem scanL_slash (r : Bs) : scanL (47 :: r) = splitS 47 r := by
  unfold scanL
  rw [List.foldl_cons]
  have e : scanS [] 47 = splitS 47 [] := by decide
  rw [e, scan_split]; rfl
theorem joinP_head (ps : List Bs) : joinP ps = [] ∨ (joinP ps).headD 0 = 47 := by
  unfold joinP
  split
  · split
    · right; rfl
    · rename_i h
      cases ps with
      | nil => exact absurd rfl h
      | cons p r => right; unfold joinB; rw [List.flatMap_cons]; rfl
  · left; rfl
/-- What the scan and the comparison answer. -/
theorem path_scan {s : Bs} (h0 : s ≠ []) (h1 : s ≠ [47]) : pathP s = if joinP (scanL s) = s then some (scanL s) else none := by
  unfold pathP
  rw [if_neg h1]
  cases s with
  | nil => exact absurd rfl h0
  | cons x r =>
    rw [List.headD_cons, List.tail_cons]
    by_cases hx : x = 47
    · subst hx
      rw [if_pos rfl, scanL_slash]
      cases hp : partsV (splitS 47 r)
      · rw [if_neg (by simp), if_neg]
        unfold joinP
        rw [hp]; simp
      · rw [if_pos rfl, if_pos]
        unfold joinP
        rw [hp, if_pos rfl, if_neg (splitS_ne _ _), joinB_split]
    · rw [if_neg hx, if_neg]
      intro e
      rcases joinP_head (scanL (x :: r)) with h | h
      · rw [h] at e; cases e
      · rw [e] at h; exact hx h
theorem path_nil : pathP [] = none := by decide
theorem scanL_take {s : Bs} {k : Nat} (h : k < s.length) : scanL (s.take (k + 1)) = scanS (scanL (s.take k)) s[k] := by
  unfold scanL
  rw [← List.take_append_getElem h, List.foldl_append]; rfl
theorem scanS_len (acc : List Bs) (c : UInt8) : (scanS acc c).length ≤ acc.length + 1 := by
  unfold scanS; split
  · simp
  · rw [List.length_set]; omega
def PathR (s : ByteArray) (w : World) (e : Ending) (w' : World) : Prop :=
  ∃ v, e = .returned (.tuple #[v, .bool (pathP (bs s)).isSome]) ∧ Own w' w.heap.size 9 1 encS v (((pathP (bs s)).getD []).map mk) ∧ Below w.heap.size w w'
def scB (s : ByteArray) (k : Nat) : List ByteArray := (scanL ((bs s).take k)).map mk
theorem scB_zero (s : ByteArray) : scB s 0 = [] := rfl
theorem scB_full (s : ByteArray) : (scB s s.size).map bs = scanL (bs s) := by
  unfold scB
  rw [List.take_of_length_le (by rw [size_bs]; omega), List.map_map]
  exact (List.map_congr_left fun p _ => rfl).trans (List.map_id _)
theorem scB_step {s : ByteArray} {k : Nat} (h : k < s.size) : scB s (k + 1) = (scanS (scanL ((bs s).take k)) s[k]).map mk := by
  unfold scB; rw [scanL_take (by rw [size_bs]; exact h)]; rfl
theorem scB_slash {s : ByteArray} {k : Nat} (h : k < s.size) (hc : s[k] = 47) : scB s (k + 1) = scB s k ++ [⟨#[]⟩] := by
  rw [scB_step h, hc]; unfold scanS scB; rw [if_pos rfl, List.map_append]; rfl
theorem scB_none {s : ByteArray} {k : Nat} (h : k < s.size) (hc : s[k] ≠ 47) (h0 : (scB s k).length = 0) : scB s (k + 1) = scB s k := by
  have e : scanL ((bs s).take k) = [] := by unfold scB at h0; rw [List.length_map] at h0; exact List.length_eq_zero_iff.1 h0
  rw [scB_step h]; unfold scanS scB; rw [if_neg hc, e]; rfl
theorem scB_some {s : ByteArray} {k : Nat} (h : k < s.size) (hc : s[k] ≠ 47) (y : ByteArray) (hy : (scB s k)[(scB s k).length - 1]? = some y) : scB s (k + 1) = (scB s k).set ((scB s k).length - 1) (y ++ s.extract k (k + 1)) := by
  rw [scB_step h]; unfold scanS; rw [if_neg hc, List.map_set]
  unfold scB at hy ⊢
  rw [List.length_map] at hy ⊢
  rw [List.getElem?_map, Option.map_eq_some_iff] at hy
  obtain ⟨z, hz, rfl⟩ := hy
  have e : (scanL ((bs s).take k)).getLastD [] = z := by rw [List.getLastD_eq_getLast?, List.getLast?_eq_getElem?, hz]; rfl
  rw [e, ← mk_append]
  congr 2
  apply ByteArray.ext
  apply Array.ext'
  simp [mk, ByteArray.data_extract]
  rw [List.drop_eq_getElem_cons (by rw [size_bs]; exact h)]; rfl
theorem scB_len (s : ByteArray) : ∀ k, k ≤ s.size → (scB s k).length ≤ k ∧ ∀ y ∈ scB s k, y.size ≤ k
  | 0, _ => ⟨Nat.le_refl _, fun y h => by cases h⟩
  | k + 1, h => by
    obtain ⟨h1, h2⟩ := scB_len s k (by omega)
    by_cases hc : s[k] = 47
    · rw [scB_slash (by omega) hc]
      refine ⟨by simp; omega, fun y hy => ?_⟩
      rcases List.mem_append.1 hy with h | h
      · have := h2 y h; omega
      · simp at h; subst h; simp [ByteArray.size]
    · by_cases h0 : (scB s k).length = 0
      · rw [scB_none (by omega) hc h0]
        exact ⟨by omega, fun y hy => by have := h2 y hy; omega⟩
      · have hlt : (scB s k).length - 1 < (scB s k).length := by omega
        rw [scB_some (by omega) hc _ (List.getElem?_eq_getElem hlt)]
        refine ⟨by rw [List.length_set]; omega, fun y hy => ?_⟩
        rcases List.mem_or_eq_of_mem_set hy with h | h
        · have := h2 y h; omega
        · subst h
          have h3 := h2 _ (List.getElem_mem hlt)
          rw [ByteArray.size_append, ByteArray.size_extract]
          omega
theorem scB_all (s : ByteArray) : scB s s.size = (scanL (bs s)).map mk := by
  unfold scB; rw [List.take_of_length_le (by rw [size_bs]; omega)]
theorem PathR.made {s : ByteArray} {w w1 : World} (hE : pathP (bs s) = none) (hb : Below w.heap.size w w1) : PathR s w (.returned (.tuple #[.slice (some ⟨w1.heap.size, 0, none⟩) 0 0, .bool false])) (w1.alloc madeS) := by
  unfold PathR; rw [hE]
  exact ⟨_, rfl, Own.made hb.size, hb.alloc hb.size _⟩
theorem PathR.yes {s : ByteArray} {w w1 : World} {v : Value} (hE : pathP (bs s) = some (scanL (bs s))) (ho : Own w1 w.heap.size 9 1 encS v (scB s s.size)) (hb : Below w.heap.size w w1) : PathR s w (.returned (.tuple #[v, .bool true])) w1 := by
  unfold PathR; rw [hE]
  rw [scB_all] at ho
  exact ⟨_, rfl, ho, hb⟩
theorem PathR.root {s : ByteArray} {w : World} (h : bs s = [47]) : PathR s w (.returned (.tuple #[.slice (some ⟨w.heap.size, 0, none⟩) 0 0, .bool true])) (w.alloc madeS) := by
  unfold PathR; rw [h]
  have e : pathP [47] = some [] := by decide
  rw [e]
  exact ⟨_, rfl, Own.made (Nat.le_refl _), (Below.refl _ _).alloc (Nat.le_refl _) _⟩
set_option maxHeartbeats 4000000 in
set_option maxRecDepth 100000 in
theorem sPathParts_any (s : ByteArray) (w : World) (hs : s.size ≤ 1048576) : Calls Tryd.prog 25 #[.string s] w (PathR s w) := by
  cases h1 : (s.toList == [47])
  case true =>
    have HE := Lib.hid (show bs s = [47] by rw [ByteArray.toList_eq] at h1; exact beq_iff_eq.1 h1)
    go_enter Tryd.func25, Tryd.ntmps25
    go_wp2
    go_ret2
    exact PathR.root HE.out
  case false =>
    have hne47 : bs s ≠ [47] := fun e => by rw [ByteArray.toList_eq] at h1; change (bs s == [47]) = false at h1; rw [e] at h1; cases h1
    have HSC := Lib.hid (fun h0 => path_scan (s := bs s) h0 hne47)
    have HSZ := Lib.hid (show s.size ≤ 1048576 from hs)
    clear hne47
    go_enter Tryd.func25, Tryd.ntmps25
    go_wp2_with fail
    go_loopw [4, 5] (fun v i wr => ∃ (k : Nat), k ≤ s.size ∧ i = .int .i64 k ∧ Hid (Own wr w.heap.size 9 1 encS v (scB s k)) ∧ Hid (Below w.heap.size w wr)) (fun _ i _ => s.size - (intOf i).toNat)
    case atStart => exact ⟨0, Nat.zero_le _, rfl, Own.made (Nat.le_refl _), (Below.refl _ _).alloc (Nat.le_refl _) _⟩
    case round =>
      obtain ⟨k, hk, rfl, HO, HBW⟩ := hrel
      obtain ⟨hL1, hL2⟩ := scB_len s k hk
      by_cases hlt : k < s.size
      · have hin : (k : Int) < (s.size : Int) := by omega
        by_cases hc : s[k] = 47
        · have HN := Lib.hid (scB_slash hlt hc)
          have hcn : ((s[k].toNat : Nat) : Int) = 47 := by rw [hc]; rfl
          have HL := Lib.hid (show (scB s k).length ≤ 16777216 by omega)
          clear hL2 hc hL1
          generalize scB s k = ls at *
          go_wp2_with (at_builtin; refine app_str (w0 := w) (y := ⟨#[]⟩) rfl rfl (by rfl) (by rfl) HO.out HBW.out HL.out ?_; intro v6 w6 hown6 hb6; have HO6 := Lib.hid hown6; have HB6 := Lib.hid hb6; clear hown6 hb6)
          go_roundw
          case rel => exact ⟨k + 1, by omega, by go_num, by rw [HN.out]; exact HO6.out, HB6.out⟩
          case measure => simp [intOf]; omega
        · have hcn : ¬ ((s[k].toNat : Nat) : Int) = 47 := fun e => hc (UInt8.toNat_inj.1 (show s[k].toNat = 47 by omega))
          by_cases h0 : (scB s k).length = 0
          · have HN := Lib.hid (scB_none hlt hc h0)
            clear hL2 hc hL1
            generalize scB s k = ls at *
            obtain ⟨X, d, rfl, _, _, _⟩ := HO.out.sl
            have h0' : ¬ (0 : Int) < (ls.length : Int) := by omega
            go_wp2
            go_roundw
            case rel => exact ⟨k + 1, by omega, by go_num, by rw [HN.out]; exact HO.out, HBW.out⟩
            case measure => simp [intOf]; omega
          · have hll : (scB s k).length - 1 < (scB s k).length := by omega
            have HN := Lib.hid (scB_some hlt hc _ (List.getElem?_eq_getElem hll))
            have hys := hL2 _ (List.getElem_mem hll)
            clear hL2 hc
            generalize scB s k = ls at *
            have hp1 : (1 : Int) ≤ (ls.length : Int) := by omega
            have hp2 : 0 < ls.length := by omega
            have hp3 : (0 : Int) < (ls.length : Int) := by omega
            obtain ⟨g, cap, rfl, hg, hcap, _, _⟩ := HO.out.row hp2
            obtain ⟨b3, o3, e, hc0⟩ := HO.out.sl'.getS hll
            injection e with e; injection e with e1 e2
            subst e1 e2
            simp only [Nat.zero_add] at hc0
            have hfz := HO.out.free' (ls.length - 1)
            have hxs : (s.extract k (k + 1)).size ≤ 1 := by rw [ByteArray.size_extract]; omega
            have hq := str_add (x := ls[ls.length - 1]) (y := s.extract k (k + 1)) (by omega) (by omega)
            have hset := HO.out.setEl (fun _ => rfl) (by omega) (i := ls.length - 1) (by omega) (ls[ls.length - 1] ++ s.extract k (k + 1))
            rw [← HN.out] at hset
            have hse : setAll wr g ((ls.length - 1) * 1) (encS (ls[ls.length - 1] ++ s.extract k (k + 1))) = wr.setCell ⟨g, ls.length - 1, none⟩ (.string (ls[ls.length - 1] ++ s.extract k (k + 1))) := by rw [Nat.mul_one]; rfl
            rw [hse] at hset
            have HSET := Lib.hid hset
            have HB6 := Lib.hid (HBW.out.setCell (p := ⟨g, ls.length - 1, none⟩) hg (.string (ls[ls.length - 1] ++ s.extract k (k + 1))))
            clear hset hse HN
            generalize ls[ls.length - 1] = y at *
            go_wp2_with fail
            go_region
            all_goals
              go_wp2
              go_roundw
              case rel => exact ⟨k + 1, by omega, by go_num, by first | exact HSET.out | exact HSET.out.drew, by first | exact HB6.out | exact HB6.out.drew⟩
              case measure => simp [intOf]; omega
      · obtain rfl : k = s.size := by omega
        by_cases h0 : s.size = 0
        · have hnil := nil_tl h0
          have HE := Lib.hid (show pathP (bs s) = none by rw [show bs s = [] from List.eq_nil_of_length_eq_zero (by rw [size_bs]; exact h0)]; exact path_nil)
          go_wp2
          go_ret2
          exact PathR.made HE.out HBW.out
        · obtain ⟨hne, hne2⟩ := ne_tl (s := s) (by omega)
          have hsc := HSC.out (fun e => h0 (by rw [← size_bs s, e]; rfl))
          have hJ := fun X d w h => sJoinPath_any X d (scB s s.size) w h (by omega) (fun p hp => by have := hL2 p hp; omega)
          rw [scB_full] at hJ
          obtain ⟨X, d, rfl, _, HSL, _⟩ := HO.out.sl
          have HS1 := Lib.hid HSL
          have HO1 := Lib.hid HO.out
          clear HO HSL
          generalize hln : (scB s s.size).length = n at *
          by_cases he : joinP (scanL (bs s)) = bs s
          · rw [if_pos he] at hsc
            have HE := Lib.hid hsc
            have heq : ((mk (joinP (scanL (bs s)))).toList == s.toList) = true := by rw [eq_tlx]; exact beq_iff_eq.2 he
            generalize mk (joinP (scanL (bs s))) = JJ at *
            have HJ := Lib.hid hJ
            clear hJ hsc he hL1 hL2
            go_wp2_with (go_at_call 47; refine (HJ.out _ _ _ HS1.out).mono ?_; rintro e w' ⟨rfl, rfl⟩)
            go_ret2
            exact PathR.yes HE.out HO1.out HBW.out
          · rw [if_neg he] at hsc
            have HE := Lib.hid hsc
            have heq : ((mk (joinP (scanL (bs s)))).toList == s.toList) = false := by rw [eq_tlx]; exact beq_eq_false_iff_ne.2 he
            generalize mk (joinP (scanL (bs s))) = JJ at *
            have HJ := Lib.hid hJ
            clear hJ hsc he hL1 hL2
            go_wp2_with (go_at_call 47; refine (HJ.out _ _ _ HS1.out).mono ?_; rintro e w' ⟨rfl, rfl⟩)
            go_ret2
            exact PathR.made HE.out HBW.out
end Go.Proofs.YtaeaccakkielmaaDoor

/- Words of a text, and repaired pieces, in plain Lean. -/
set_option linter.unusedVariables false
namespace Go.Proofs.YtaeaccakkielmaaDoor

def addW (acc : List Bs) (w : Bs) : List Bs := if wordV w && !acc.contains w then acc ++ [w] else acc
/-- The parts between spaces; 'cur' is what of the first part was read. -/
def spl : Bs → Bs → List Bs
  | cur, [] => [cur]
  | cur, c :: r => if c = 32 then cur :: spl [] r else spl (cur ++ [c]) r
def wordsOf (s : Bs) : List Bs := if textV s then (spl [] s).foldl addW [] else []
/-- The reference's way: byte by byte. -/
def wrun : List Bs → Bs → Bs → List Bs × Bs
  | out, w, [] => (out, w)
  | out, w, c :: r => if c = 32 then wrun (addW out w) [] r else wrun out (w ++ [c]) r
theorem wrun_spl : ∀ (r : Bs) (out : List Bs) (w : Bs), addW (wrun out w r).1 (wrun out w r).2 = (spl w r).foldl addW out
  | [], out, w => rfl
  | c :: r, out, w => by
    rw [wrun, spl]
    split
    · rw [wrun_spl r]; rfl
    · rw [wrun_spl r]
theorem wrun_snoc : ∀ (r : Bs) (out : List Bs) (w : Bs) (c : UInt8), wrun out w (r ++ [c]) = if c = 32 then (addW (wrun out w r).1 (wrun out w r).2, []) else ((wrun out w r).1, (wrun out w r).2 ++ [c])
  | [], out, w, c => by simp only [List.nil_append, wrun]
  | d :: r, out, w, c => by
    rw [List.cons_append, wrun, wrun]
    split
    · exact wrun_snoc r _ _ c
    · exact wrun_snoc r _ _ c
/-- All valid, none twice. -/
def WordsOk (l : List Bs) : Prop := (∀ w ∈ l, wordV w = true) ∧ l.Nodup
theorem addW_ok {l : List Bs} (w : Bs) (h : WordsOk l) : WordsOk (addW l w) := by
  unfold addW
  split
  · rename_i hh
    simp only [Bool.and_eq_true, Bool.not_eq_true', List.contains_eq_mem, decide_eq_false_iff_not] at hh
    refine ⟨fun x hx => ?_, ?_⟩
    · rw [List.mem_append, List.mem_singleton] at hx
      rcases hx with hx | rfl
      · exact h.1 x hx
      · exact hh.1
    · rw [List.nodup_append]
      refine ⟨h.2, by simp, fun a ha b hb => ?_⟩
      rw [List.mem_singleton] at hb; subst hb
      rintro rfl
      exact hh.2 ha
  · exact h
theorem foldl_ok : ∀ (ps : List Bs) (l : List Bs), WordsOk l → WordsOk (ps.foldl addW l)
  | [], l, h => h
  | p :: ps, l, h => foldl_ok ps _ (addW_ok p h)
theorem wordsOf_ok (s : Bs) : WordsOk (wordsOf s) := by
  unfold wordsOf
  split
  · exact foldl_ok _ _ ⟨by simp, List.nodup_nil⟩
  · exact ⟨by simp, List.nodup_nil⟩
theorem spl_append : ∀ (r : Bs) (cur q : Bs), spl cur (r ++ 32 :: q) = spl cur r ++ spl [] q
  | [], cur, q => by simp [spl]
  | c :: r, cur, q => by
    rw [List.cons_append, spl, spl]
    split
    · rw [spl_append r]; rfl
    · rw [spl_append r]
theorem wordsOf_zoo {s : Bs} (h : textV (s ++ [32, 122, 111, 111]) = true) : textV s = true ∧ wordsOf (s ++ [32, 122, 111, 111]) = addW (wordsOf s) [122, 111, 111] := by
  have hs : textV s = true := by
    unfold textV at *
    rw [Bool.and_eq_true, decide_eq_true_eq] at *
    rw [List.all_append, Bool.and_eq_true] at h
    refine ⟨?_, h.2.1⟩
    have := h.1; simp at this; omega
  refine ⟨hs, ?_⟩
  unfold wordsOf
  rw [if_pos h, if_pos hs, spl_append, List.foldl_append]
  rfl
theorem spl_len : ∀ (r cur : Bs), (spl cur r).length ≤ r.length + 1
  | [], cur => by simp [spl]
  | c :: r, cur => by
    rw [spl]; split
    · have := spl_len r []; simp; omega
    · have := spl_len r (cur ++ [c]); simp; omega
theorem foldl_len : ∀ (ps l : List Bs), (ps.foldl addW l).length ≤ l.length + ps.length
  | [], l => by simp
  | p :: ps, l => by
    have := foldl_len ps (addW l p)
    have h2 : (addW l p).length ≤ l.length + 1 := by unfold addW; split <;> simp
    simp only [List.foldl_cons, List.length_cons]; omega
theorem textV_le {s : Bs} (h : textV s = true) : s.length ≤ 60 := by
  unfold textV at h; rw [Bool.and_eq_true] at h; simpa using h.1
theorem wordsOf_len (s : Bs) : (wordsOf s).length ≤ 61 := by
  unfold wordsOf; split
  · rename_i h
    have h1 := foldl_len (spl [] s) []
    have h2 := spl_len s []
    have h3 := textV_le h
    simp at h1; omega
  · simp
/-- Every part is no longer than the text. -/
theorem spl_short : ∀ (r cur : Bs), ∀ p ∈ spl cur r, p.length ≤ cur.length + r.length
  | [], cur, p, h => by simp [spl] at h; subst h; simp
  | c :: r, cur, p, h => by
    rw [spl] at h
    split at h
    · rw [List.mem_cons] at h
      rcases h with rfl | h
      · omega
      · have := spl_short r [] p h; simp at this ⊢; omega
    · have := spl_short r _ p h; simp at this ⊢; omega
def commonW (a b : Bs) : List Bs := (wordsOf a).filter fun w => (wordsOf b).contains w
theorem commonW_self (a : Bs) : commonW a a = wordsOf a := by
  unfold commonW; rw [List.filter_eq_self]; intro w hw; simpa using hw
theorem commonW_len (a b : Bs) : (commonW a b).length = (commonW b a).length := by
  have h1 := wordsOf_ok a
  have h2 := wordsOf_ok b
  have hp : (commonW a b).Perm (commonW b a) := by
    refine (List.perm_ext_iff_of_nodup (h1.2.filter _) (h2.2.filter _)).2 fun w => ?_
    simp only [List.mem_filter, List.contains_eq_mem, decide_eq_true_eq]
    exact And.comm
  exact hp.length_eq
theorem commonW_le (a b : Bs) : (commonW a b).length ≤ (wordsOf a).length := List.length_filter_le _ _
end Go.Proofs.YtaeaccakkielmaaDoor

/- Cutting a text at a byte, in plain Lean: the library's words and ours. -/
set_option linter.unusedVariables false
namespace Go.Proofs.YtaeaccakkielmaaDoor
open Go.Lib (splitK index indexByte)
theorem index_hit (x : UInt8) (r : Bs) : index (x :: r) [x] = 0 := by rw [Go.Lib.index_one, indexByte]; simp
theorem index_skip {x c : UInt8} (h : c ≠ x) (r : Bs) : index (c :: r) [x] = if index r [x] == -1 then -1 else index r [x] + 1 := by
  rw [Go.Lib.index_one, Go.Lib.index_one, indexByte]
  have : (c == x) = false := by simpa using h
  rw [this]; simp
theorem index_nil (x : UInt8) : index [] [x] = -1 := rfl
theorem splitK_hit (x : UInt8) (k : Nat) (r : Bs) : splitK [x] 0 (k + 1) (x :: r) = [] :: splitK [x] 0 k r := by
  rw [splitK, index_hit]; rfl
theorem splitK_ne (x : UInt8) : ∀ (k : Nat) (s : Bs), splitK [x] 0 k s ≠ []
  | 0, s => by simp [splitK]
  | k + 1, s => by rw [splitK]; split <;> simp
/-- One byte more ahead, which is not the one at which it is cut. -/
def onHead (c : UInt8) : List Bs → List Bs
  | [] => []
  | p :: ps => (c :: p) :: ps
theorem splitK_skip {x c : UInt8} (h : c ≠ x) : ∀ (k : Nat) (r : Bs), splitK [x] 0 k (c :: r) = onHead c (splitK [x] 0 k r)
  | 0, r => rfl
  | k + 1, r => by
    have hge := Go.Lib.index_ge r [x]
    rw [splitK, splitK, index_skip h]
    by_cases e : index r [x] = -1
    · simp [e, onHead]
    · have e1 : (index r [x] == -1) = false := by simpa using e
      have e2 : (index r [x] + 1 == -1) = false := by simp; omega
      rw [e1]
      simp only [Bool.false_eq_true, if_false, e2]
      have e3 : (index r [x] + 1).toNat = (index r [x]).toNat + 1 := by omega
      rw [e3]
      simp [onHead]
theorem index_count (x : UInt8) : ∀ (s : Bs), (index s [x] = -1 → s.count x = 0) ∧ (∀ i : Nat, index s [x] = i → i < s.length ∧ s.count x = 1 + (s.drop (i + 1)).count x)
  | [] => ⟨fun _ => rfl, fun i h => by rw [index_nil] at h; omega⟩
  | c :: r => by
    have ih := index_count x r
    have hge := Go.Lib.index_ge r [x]
    by_cases e : c = x
    · subst e
      rw [index_hit]
      refine ⟨fun h => by omega, fun i h => ?_⟩
      have : i = 0 := by omega
      subst this
      simp; omega
    · rw [index_skip e, List.count_cons_of_ne (by simpa using e)]
      by_cases e2 : index r [x] = -1
      · rw [e2]
        refine ⟨fun _ => ih.1 e2, fun i h => ?_⟩
        simp at h
      · have e3 : (index r [x] == -1) = false := by simpa using e2
        rw [e3]
        simp only [Bool.false_eq_true, if_false]
        refine ⟨fun h => by omega, fun i h => ?_⟩
        obtain ⟨j, hj⟩ := Int.eq_ofNat_of_zero_le (show 0 ≤ index r [x] by omega)
        have h2 := ih.2 j hj
        have : i = j + 1 := by omega
        subst this
        simp only [List.length_cons, List.drop_succ_cons]
        exact ⟨by omega, h2.2⟩
theorem countFrom_one (x : UInt8) : ∀ (f : Nat) (s : Bs), s.length < f → Go.Lib.countFrom [x] f s = s.count x
  | 0, s, h => by omega
  | f + 1, s, h => by
    rw [Go.Lib.countFrom]
    have hc := index_count x s
    have hge := Go.Lib.index_ge s [x]
    by_cases e : index s [x] = -1
    · rw [e, hc.1 e]; rfl
    · have e2 : (index s [x] == -1) = false := by simpa using e
      rw [e2]
      simp only [Bool.false_eq_true, if_false]
      obtain ⟨j, hj⟩ := Int.eq_ofNat_of_zero_le (show 0 ≤ index s [x] by omega)
      have h2 := hc.2 j hj
      rw [hj, Int.toNat_natCast, h2.2]
      congr 1
      exact countFrom_one x f _ (by simp; omega)
theorem count_one (s : Bs) (x : UInt8) : Go.Lib.count s [x] = s.count x := countFrom_one x _ s (by omega)
theorem spl_splitK : ∀ (s : Bs) (k : Nat) (cur : Bs), s.count 32 ≤ k → spl cur s = match splitK [32] 0 k s with | p :: ps => (cur ++ p) :: ps | [] => []
  | [], k, cur, _ => by
    cases k <;> simp [splitK, spl, index_nil]
  | c :: r, k, cur, h => by
    rw [spl]
    by_cases e : c = 32
    · subst e
      rw [if_pos rfl]
      cases k with
      | zero => simp at h
      | succ k =>
        rw [splitK_hit]
        have ih := spl_splitK r k [] (by simp at h; omega)
        rw [ih]
        cases hs : splitK [32] 0 k r with
        | nil => exact absurd hs (splitK_ne _ _ _)
        | cons p ps => simp
    · rw [if_neg e]
      have ih := spl_splitK r k (cur ++ [c]) (by rw [List.count_cons_of_ne (by simpa using e)] at h; exact h)
      rw [ih, splitK_skip e]
      cases hs : splitK [32] 0 k r with
      | nil => exact absurd hs (splitK_ne _ _ _)
      | cons p ps => simp [onHead]
theorem split_spl (s : Bs) : splitK [32] 0 (Go.Lib.count s [32]) s = spl [] s := by
  have h := spl_splitK s (Go.Lib.count s [32]) [] (by rw [count_one]; exact Nat.le_refl _)
  rw [h]
  cases hs : splitK [32] 0 (Go.Lib.count s [32]) s with
  | nil => exact absurd hs (splitK_ne _ _ _)
  | cons p ps => simp
theorem spl_count : ∀ (r cur : Bs), (spl cur r).length = r.count 32 + 1
  | [], cur => by simp [spl]
  | c :: r, cur => by
    rw [spl]
    by_cases e : c = 32
    · subst e; rw [if_pos rfl, List.length_cons, spl_count r []]; simp
    · rw [if_neg e, spl_count r, List.count_cons_of_ne (by simpa using e)]
/-- The library's pieces, as texts. -/
theorem splitB_spl (s : ByteArray) : Go.Lib.splitB ⟨#[32]⟩ 0 (Go.Lib.countB s ⟨#[32]⟩) s = (spl [] s.data.toList).map mk := by
  have h := Go.Lib.splitB_data ⟨#[32]⟩ 0 (Go.Lib.countB s ⟨#[32]⟩) s
  have h2 : (Go.Lib.splitB ⟨#[32]⟩ 0 (Go.Lib.countB s ⟨#[32]⟩) s).map (·.data.toList) = spl [] s.data.toList := by
    rw [h]; exact split_spl _
  rw [← h2, List.map_map]
  have e : (mk ∘ fun x : ByteArray => x.data.toList) = id := by funext x; exact mk_bs x
  rw [e, List.map_id]
theorem countB_spl (s : ByteArray) : Go.Lib.countB s ⟨#[32]⟩ + 1 = (spl [] s.data.toList).length := by
  rw [spl_count]; show Go.Lib.count s.data.toList [32] + 1 = _; rw [count_one]
end Go.Proofs.YtaeaccakkielmaaDoor

/- The library's contracts at this dump, in plain words: written by the kit's tools lay-shelf, lay-plain; kept: strings_Cut, strings_CutPrefix, strings_SplitN, strings_Join, strings_Join_none, strings_Join_one and what they lean on. -/
set_option linter.unusedVariables false
namespace Go.Proofs
open Go.Shelf
def Tryd.lays156_ren : Go.Shelf.Ren := ⟨fun | 156 => 66 | 165 => 82 | 166 => 83 | 169 => 84 | 240 => 105 | 241 => 106 | 276 => 120 | 277 => 121 | n => n, fun | 31 => 37 | 9 => 9 | 3 => 3 | 4 => 4 | 0 => 0 | 20 => 20 | 72 => 100 | 76 => 104 | 70 => 98 | 37 => 29 | 75 => 103 | 127 => 125 | 164 => 138 | 5 => 5 | 80 => 106 | n => n, fun | n => n⟩
theorem Tryd.lays156 : Go.Proofs.Lays.n156 Tryd.prog Tryd.lays156_ren := {
  mixed := by kernel_rfl
  f156 := Tryd.func66.trans (congrArg some (by kernel_rfl))
  f165 := Tryd.func82.trans (congrArg some (by kernel_rfl))
  f166 := Tryd.func83.trans (congrArg some (by kernel_rfl))
  f169 := Tryd.func84.trans (congrArg some (by kernel_rfl))
  f240 := Tryd.func105.trans (congrArg some (by kernel_rfl))
  f241 := Tryd.func106.trans (congrArg some (by kernel_rfl))
  f276 := Tryd.func120.trans (congrArg some (by kernel_rfl))
  f277 := Tryd.func121.trans (congrArg some (by kernel_rfl))
  t0 := Tryd.underlying0
  a0 := Tryd.isAgg0
  z0 := Tryd.sizeOf0
  v0 := Tryd.zeroValue0
  t3 := Tryd.underlying3
  a3 := Tryd.isAgg3
  z3 := Tryd.sizeOf3
  v3 := Tryd.zeroValue3
  t4 := Tryd.underlying4
  a4 := Tryd.isAgg4
  z4 := Tryd.sizeOf4
  v4 := Tryd.zeroValue4
  t9 := Tryd.underlying9
  a9 := Tryd.isAgg9
  z9 := Tryd.sizeOf9
  v9 := Tryd.zeroValue9
  t20 := Tryd.underlying20
  a20 := Tryd.isAgg20
  z20 := Tryd.sizeOf20
  v20 := Tryd.zeroValue20
  t31 := Tryd.underlying37
  a31 := Tryd.isAgg37
  z31 := Tryd.sizeOf37
  v31 := Tryd.zeroValue37
  t37 := Tryd.underlying29
  a37 := Tryd.isAgg29
  z37 := Tryd.sizeOf29
  v37 := Tryd.zeroValue29
  t70 := Tryd.underlying98
  a70 := Tryd.isAgg98
  z70 := Tryd.sizeOf98
  v70 := Tryd.zeroValue98
  t72 := Tryd.underlying100
  a72 := Tryd.isAgg100
  z72 := Tryd.sizeOf100
  v72 := Tryd.zeroValue100
  t75 := Tryd.underlying103
  a75 := Tryd.isAgg103
  z75 := Tryd.sizeOf103
  v75 := Tryd.zeroValue103
  t76 := Tryd.underlying104
  a76 := Tryd.isAgg104
  z76 := Tryd.sizeOf104
  v76 := Tryd.zeroValue104
  t127 := Tryd.underlying125
  a127 := Tryd.isAgg125
  z127 := Tryd.sizeOf125
  v127 := Tryd.zeroValue125
  t164 := Tryd.underlying138
  a164 := Tryd.isAgg138
  z164 := Tryd.sizeOf138
  v164 := Tryd.zeroValue138 }
theorem Tryd.Builder_Extra_156 : Builder.Extra Tryd.prog Tryd.lays156_ren := {
  sizeBuilder := by kernel_rfl
  liesBuilder := by kernel_rfl
  t5 := Tryd.underlying5
  a5 := Tryd.isAgg5
  z5 := Tryd.sizeOf5
  v5 := Tryd.zeroValue5
  infoByte := by kernel_rfl
  cellsByte := by kernel_rfl
  sizeByte := by kernel_rfl
  neB5 := by decide }
open Go.RowKit in
theorem Tryd.strings_Join_none (a : Option Addr) (c : Nat) (sep : ByteArray) (w : World) :
    Calls Tryd.prog 66 #[.slice a 0 c, .string sep] w fun e w' => e = .returned (.string ⟨#[]⟩) ∧ w' = w := Any.strings_Join_none Tryd.lays156 Tryd.Builder_Extra_156 a c sep w
open Go.RowKit in
theorem Tryd.strings_Join (bk o c : Nat) (xs : List ByteArray) (sep : ByteArray) (w : World) (hcells : ∀ (j : Nat) x, xs[j]? = some x → w.cell? ⟨bk, o + j, none⟩ = some (.string x)) (hbk : bk < w.heap.size) (hN : xs.length ≤ 140737488355328) (hcap : xs.length ≤ c) (hlen : (Lib.join (xs.map (·.data.toList)) sep.data.toList).length ≤ 140737488355328) :
    Calls Tryd.prog 66 #[.slice (some ⟨bk, o, none⟩) xs.length c, .string sep] w fun e w' => e = .returned (.string ⟨(Lib.join (xs.map (·.data.toList)) sep.data.toList).toArray⟩) ∧ Below w.heap.size w w' := Any.strings_Join Tryd.lays156 Tryd.Builder_Extra_156 bk o c xs sep w hcells hbk hN hcap hlen
def Tryd.lays103_ren : Go.Shelf.Ren := ⟨fun | 103 => 48 | 210 => 64 | 206 => 78 | n => n, fun | 9 => 9 | 4 => 4 | 24 => 68 | 3 => 3 | n => n, fun | n => n⟩
theorem Tryd.lays103 : Go.Proofs.Lays.n103 Tryd.prog Tryd.lays103_ren := {
  mixed := by kernel_rfl
  f103 := Tryd.func48.trans (congrArg some (by kernel_rfl))
  f206 := Tryd.func78.trans (congrArg some (by kernel_rfl))
  f210 := Tryd.func64.trans (congrArg some (by kernel_rfl))
  t3 := Tryd.underlying3
  a3 := Tryd.isAgg3
  z3 := Tryd.sizeOf3
  v3 := Tryd.zeroValue3
  t4 := Tryd.underlying4
  a4 := Tryd.isAgg4
  z4 := Tryd.sizeOf4
  v4 := Tryd.zeroValue4
  t9 := Tryd.underlying9
  a9 := Tryd.isAgg9
  z9 := Tryd.sizeOf9
  v9 := Tryd.zeroValue9
  t24 := Tryd.underlying68
  a24 := Tryd.isAgg68
  z24 := Tryd.sizeOf68
  v24 := Tryd.zeroValue68 }
open Go.RowKit in
theorem Tryd.strings_CutPrefix (s p : ByteArray) (w : World) :
    Calls Tryd.prog 48 #[.string s, .string p] w fun e w' => e = .returned (.tuple #[.string ⟨(Lib.trimPrefix s.data.toList p.data.toList).toArray⟩, .bool (Lib.hasPrefix s.data.toList p.data.toList)]) ∧ w' = w := Any.strings_CutPrefix Tryd.lays103 s p w
def Tryd.lays145_ren : Go.Shelf.Ren := ⟨fun | 145 => 38 | 220 => 59 | 219 => 72 | 217 => 96 | 225 => 97 | 224 => 98 | 267 => 99 | 266 => 116 | 314 => 117 | n => n, fun | 9 => 9 | 4 => 4 | 59 => 61 | 3 => 3 | 5 => 5 | 46 => 122 | 146 => 135 | 51 => 132 | n => n, fun | 1 => 0 | n => n⟩
theorem Tryd.lays145 : Go.Proofs.Lays.n145 Tryd.prog Tryd.lays145_ren := {
  mixed := by kernel_rfl
  f145 := Tryd.func38.trans (congrArg some (by kernel_rfl))
  f217 := Tryd.func96.trans (congrArg some (by kernel_rfl))
  f219 := Tryd.func72.trans (congrArg some (by kernel_rfl))
  f220 := Tryd.func59.trans (congrArg some (by kernel_rfl))
  f224 := Tryd.func98.trans (congrArg some (by kernel_rfl))
  f225 := Tryd.func97.trans (congrArg some (by kernel_rfl))
  f266 := Tryd.func116.trans (congrArg some (by kernel_rfl))
  f267 := Tryd.func99.trans (congrArg some (by kernel_rfl))
  f314 := Tryd.func117.trans (congrArg some (by kernel_rfl))
  t3 := Tryd.underlying3
  a3 := Tryd.isAgg3
  z3 := Tryd.sizeOf3
  v3 := Tryd.zeroValue3
  t4 := Tryd.underlying4
  a4 := Tryd.isAgg4
  z4 := Tryd.sizeOf4
  v4 := Tryd.zeroValue4
  t5 := Tryd.underlying5
  a5 := Tryd.isAgg5
  z5 := Tryd.sizeOf5
  v5 := Tryd.zeroValue5
  t9 := Tryd.underlying9
  a9 := Tryd.isAgg9
  z9 := Tryd.sizeOf9
  v9 := Tryd.zeroValue9
  t46 := Tryd.underlying122
  a46 := Tryd.isAgg122
  z46 := Tryd.sizeOf122
  v46 := Tryd.zeroValue122
  t51 := Tryd.underlying132
  a51 := Tryd.isAgg132
  z51 := Tryd.sizeOf132
  v51 := Tryd.zeroValue132
  t59 := Tryd.underlying61
  a59 := Tryd.isAgg61
  z59 := Tryd.sizeOf61
  v59 := Tryd.zeroValue61
  t146 := Tryd.underlying135
  a146 := Tryd.isAgg135
  z146 := Tryd.sizeOf135
  v146 := Tryd.zeroValue135
  g1 := by kernel_rfl }
open Go.RowKit Go.Lib in
theorem Tryd.strings_Cut (s sep : ByteArray) (m : Int) (w : World) (hs : s.size < 4294967281) (hm : w.cell? ⟨0, 0, none⟩ = some (.int .i64 m)) :
    Calls Tryd.prog 38 #[.string s, .string sep] w fun e w' => e = .returned (.tuple #[.string ⟨(Lib.cut s.data.toList sep.data.toList).1.toArray⟩, .string ⟨(Lib.cut s.data.toList sep.data.toList).2.1.toArray⟩, .bool (Lib.cut s.data.toList sep.data.toList).2.2]) ∧ ∃ n, w' = w.drewN n := Any.strings_Cut Tryd.lays145 s sep m w hs hm
def Tryd.lays147_ren : Go.Shelf.Ren := ⟨fun | 147 => 49 | 221 => 65 | 268 => 79 | 138 => 80 | 143 => 81 | 195 => 102 | 197 => 103 | 218 => 104 | 219 => 72 | 260 => 119 | 217 => 96 | 225 => 97 | 224 => 98 | 267 => 99 | 266 => 116 | 314 => 117 | n => n, fun | 9 => 9 | 3 => 3 | 31 => 37 | 4 => 4 | 0 => 0 | 105 => 123 | 21 => 21 | 5 => 5 | 46 => 122 | 119 => 143 | 139 => 146 | 138 => 145 | 146 => 135 | 51 => 132 | n => n, fun | 1 => 0 | 3 => 2 | 4 => 3 | n => n⟩
theorem Tryd.lays147 : Go.Proofs.Lays.n147 Tryd.prog Tryd.lays147_ren := {
  mixed := by kernel_rfl
  f138 := Tryd.func80.trans (congrArg some (by kernel_rfl))
  f143 := Tryd.func81.trans (congrArg some (by kernel_rfl))
  f147 := Tryd.func49.trans (congrArg some (by kernel_rfl))
  f195 := Tryd.func102.trans (congrArg some (by kernel_rfl))
  f197 := Tryd.func103.trans (congrArg some (by kernel_rfl))
  f217 := Tryd.func96.trans (congrArg some (by kernel_rfl))
  f218 := Tryd.func104.trans (congrArg some (by kernel_rfl))
  f219 := Tryd.func72.trans (congrArg some (by kernel_rfl))
  f221 := Tryd.func65.trans (congrArg some (by kernel_rfl))
  f224 := Tryd.func98.trans (congrArg some (by kernel_rfl))
  f225 := Tryd.func97.trans (congrArg some (by kernel_rfl))
  f260 := Tryd.func119.trans (congrArg some (by kernel_rfl))
  f266 := Tryd.func116.trans (congrArg some (by kernel_rfl))
  f267 := Tryd.func99.trans (congrArg some (by kernel_rfl))
  f268 := Tryd.func79.trans (congrArg some (by kernel_rfl))
  f314 := Tryd.func117.trans (congrArg some (by kernel_rfl))
  t0 := Tryd.underlying0
  a0 := Tryd.isAgg0
  z0 := Tryd.sizeOf0
  v0 := Tryd.zeroValue0
  t3 := Tryd.underlying3
  a3 := Tryd.isAgg3
  z3 := Tryd.sizeOf3
  v3 := Tryd.zeroValue3
  t4 := Tryd.underlying4
  a4 := Tryd.isAgg4
  z4 := Tryd.sizeOf4
  v4 := Tryd.zeroValue4
  t5 := Tryd.underlying5
  a5 := Tryd.isAgg5
  z5 := Tryd.sizeOf5
  v5 := Tryd.zeroValue5
  t9 := Tryd.underlying9
  a9 := Tryd.isAgg9
  z9 := Tryd.sizeOf9
  v9 := Tryd.zeroValue9
  t21 := Tryd.underlying21
  a21 := Tryd.isAgg21
  z21 := Tryd.sizeOf21
  v21 := Tryd.zeroValue21
  t31 := Tryd.underlying37
  a31 := Tryd.isAgg37
  z31 := Tryd.sizeOf37
  v31 := Tryd.zeroValue37
  t46 := Tryd.underlying122
  a46 := Tryd.isAgg122
  z46 := Tryd.sizeOf122
  v46 := Tryd.zeroValue122
  t51 := Tryd.underlying132
  a51 := Tryd.isAgg132
  z51 := Tryd.sizeOf132
  v51 := Tryd.zeroValue132
  t105 := Tryd.underlying123
  a105 := Tryd.isAgg123
  z105 := Tryd.sizeOf123
  v105 := Tryd.zeroValue123
  t119 := Tryd.underlying143
  a119 := Tryd.isAgg143
  z119 := Tryd.sizeOf143
  t138 := Tryd.underlying145
  a138 := Tryd.isAgg145
  z138 := Tryd.sizeOf145
  v138 := Tryd.zeroValue145
  t139 := Tryd.underlying146
  a139 := Tryd.isAgg146
  z139 := Tryd.sizeOf146
  v139 := Tryd.zeroValue146
  t146 := Tryd.underlying135
  a146 := Tryd.isAgg135
  z146 := Tryd.sizeOf135
  v146 := Tryd.zeroValue135
  g1 := by kernel_rfl
  g3 := by kernel_rfl
  g4 := by kernel_rfl }
open Go.RowKit Go.Lib in
theorem Tryd.strings_SplitN (s sep : ByteArray) (n : Nat) (m : Int) (w : World) (hs : s.size < 4294967281) (hm : w.cell? ⟨0, 0, none⟩ = some (.int .i64 m)) (h1 : 1 ≤ sep.size) (hn : 1 ≤ n) (hn63 : n ≤ 9223372036854775807) :
    Calls Tryd.prog 49 #[.string s, .string sep, .int .i64 n] w fun e w' =>
      e = .returned (.slice (some ⟨w.heap.size, 0, none⟩) (Lib.splitB sep 0 (min n (s.size + 1) - 1) s).length (min n (s.size + 1))) ∧ w' = w.alloc (.cells (Lib.cellsOf (Lib.splitB sep 0 (min n (s.size + 1) - 1) s) (min n (s.size + 1))) 9) := Any.strings_SplitN Tryd.lays147 (by kernel_rfl) s sep n m w hs hm h1 hn hn63
end Go.Proofs

/- The library's variable MaxLen. -/
set_option linter.unusedVariables false
namespace Go.Proofs.YtaeaccakkielmaaDoor
open Go.RowKit
/-- The library's own variable holds some number. -/
def MaxL (w : World) : Prop := ∃ m, w.cell? ⟨0, 0, none⟩ = some (.int .i64 m)
theorem MaxL.below {w w' : World} (h : MaxL w) (hb : Below w.heap.size w w') : MaxL w' := by
  obtain ⟨m, hm⟩ := h; exact ⟨m, Below_cells hb _ _ _ hm⟩
theorem MaxL.lt {w : World} (h : MaxL w) : 0 < w.heap.size := by
  obtain ⟨m, hm⟩ := h; exact World.block_lt_of_cell? w _ hm
end Go.Proofs.YtaeaccakkielmaaDoor

/- strings.Cut at a byte. -/
set_option linter.unusedVariables false
namespace Go.Proofs.YtaeaccakkielmaaDoor
open Go.RowKit
def headC (c : UInt8) (s : Bs) : Bs := s.takeWhile fun x => x != c
def cutC (c : UInt8) (s : Bs) : Option (Bs × Bs) := if (headC c s).length < s.length then some (headC c s, s.drop ((headC c s).length + 1)) else none
theorem headC_le (c : UInt8) (s : Bs) : (headC c s).length ≤ s.length := (List.takeWhile_sublist _).length_le
theorem headC_cons (c x : UInt8) (r : Bs) : headC c (x :: r) = if x = c then [] else x :: headC c r := by
  unfold headC; rw [List.takeWhile_cons]
  by_cases h : x = c <;> simp [h]
theorem headC_take (c : UInt8) : ∀ s : Bs, headC c s = s.take (headC c s).length
  | [] => rfl
  | x :: r => by
    rw [headC_cons]
    split
    · rfl
    · rw [List.length_cons, List.take_succ_cons, ← headC_take c r]
theorem headC_ne (c : UInt8) : ∀ (s : Bs) (j : Nat) (h : j < s.length), j < (headC c s).length → s[j] ≠ c
  | [], j, h, _ => by simp at h
  | x :: r, j, h, hj => by
    rw [headC_cons] at hj
    split at hj
    · simp at hj
    · rename_i hx
      cases j with
      | zero => simpa using hx
      | succ j => simpa using headC_ne c r j (by simpa using h) (by simpa using hj)
theorem headC_at (c : UInt8) : ∀ (s : Bs) (h : (headC c s).length < s.length), s[(headC c s).length] = c
  | [], h => by simp at h
  | x :: r, h => by
    by_cases hx : x = c
    · have e : headC c (x :: r) = [] := by rw [headC_cons, if_pos hx]
      simp only [e, List.length_nil, List.getElem_cons_zero]; exact hx
    · have e : headC c (x :: r) = x :: headC c r := by rw [headC_cons, if_neg hx]
      have h' : (headC c r).length < r.length := by rw [e] at h; simpa using h
      have := headC_at c r h'
      simp only [e, List.length_cons, List.getElem_cons_succ]; exact this
theorem idx_head (c : UInt8) : ∀ s : Bs, Lib.indexByte s c = if (headC c s).length < s.length then ((headC c s).length : Int) else -1
  | [] => rfl
  | x :: r => by
    unfold Lib.indexByte headC
    rw [List.takeWhile_cons]
    by_cases h : x = c
    · subst h; simp
    · have ih := idx_head c r
      have h1 : (x == c) = false := beq_eq_false_iff_ne.2 h
      have h2 : (x != c) = true := by simp [h]
      unfold headC at ih
      rw [h1, h2, ih]
      simp only [Bool.false_eq_true, if_false, if_true, List.length_cons, Nat.add_lt_add_iff_right]
      split
      · have e : ((((r.takeWhile fun x => x != c).length : Nat) : Int) == -1) = false := by rw [beq_eq_false_iff_ne]; omega
        rw [e]; simp
      · simp
theorem cut_at (c : UInt8) (s : Bs) : Lib.cut s [c] = match cutC c s with | some (a, b) => (a, b, true) | none => (s, [], false) := by
  unfold Lib.cut cutC
  rw [Lib.index_one, idx_head]
  split
  · rename_i h
    rw [if_pos (by omega)]
    simp only [Int.toNat_natCast, List.length_singleton]
    rw [← headC_take]
  · rw [if_neg (by omega)]
def cutV (c : UInt8) (s : ByteArray) : Value := match cutC c (bs s) with | some (a, b) => .tuple #[.string (mk a), .string (mk b), .bool true] | none => .tuple #[.string s, .string ⟨#[]⟩, .bool false]
theorem cutC_some {c : UInt8} {s a b : Bs} (h : cutC c s = some (a, b)) : s = a ++ c :: b ∧ a = headC c s := by
  unfold cutC at h
  split at h
  · rename_i hlt
    injection h with h; injection h with h1 h2
    have h3 := headC_at c s hlt
    refine ⟨?_, h1.symm⟩
    rw [← h1, ← h2]
    conv => lhs; rw [← List.take_append_drop (headC c s).length s, ← headC_take, List.drop_eq_getElem_cons hlt, h3]
  · cases h
theorem cutC_len {c : UInt8} {s : ByteArray} {a b : Bs} (h : cutC c (bs s) = some (a, b)) : a.length + b.length + 1 = s.size := by
  have h1 := (cutC_some h).1
  have h2 := size_bs s
  rw [h1, List.length_append, List.length_cons] at h2; omega
theorem Cut_any (s : ByteArray) (c : UInt8) (w : World) (hs : s.size ≤ 16777216) (hm : MaxL w) :
    Calls Tryd.prog 38 #[.string s, .string ⟨#[c]⟩] w fun e w' => e = .returned (cutV c s) ∧ Below w.heap.size w w' := by
  obtain ⟨m, hm⟩ := hm
  refine (Tryd.strings_Cut s ⟨#[c]⟩ m w (by omega) hm).mono fun e w' ⟨h1, n, h2⟩ => ?_
  have e2 : Lib.cut s.data.toList (⟨#[c]⟩ : ByteArray).data.toList = Lib.cut (bs s) [c] := rfl
  rw [e2, cut_at] at h1
  refine ⟨?_, by rw [h2]; exact Below_drewN (Below.refl _ _) n⟩
  rw [h1]
  unfold cutV
  cases cutC c (bs s) with
  | none =>
    rw [show (⟨(bs s).toArray⟩ : ByteArray) = s from mk_bs s]
  | some x => rfl
end Go.Proofs.YtaeaccakkielmaaDoor

/- What a reader of folders has come to, in plain Lean. No program in sight. -/
set_option linter.unusedVariables false
namespace Go.Proofs.YtaeaccakkielmaaDoor
--BEGIN
/-- 'acc' is read, 'rest' is left: so it is with each folder whose text is s. -/
def FC (s : Bs) (acc : List En) (rest : Bs) : Prop := ∀ l, entsV l = true → foldB l = s → ∃ m, l = acc ++ m ∧ rest = m.flatMap entT
theorem FC.start (s : Bs) : FC s [] (s.drop 1) := fun l _ h => ⟨l, rfl, by rw [← h]; rfl⟩
theorem headC_stop {c : UInt8} {a b : Bs} (h : ∀ x ∈ a, x ≠ c) : headC c (a ++ c :: b) = a := takeWhile_stop (fun x hx => by simpa using h x hx) (by simp)
theorem cutC_stop {c : UInt8} {a b : Bs} (h : ∀ x ∈ a, x ≠ c) : cutC c (a ++ c :: b) = some (a, b) := by
  unfold cutC
  rw [headC_stop h, if_pos (by simp), drop_past]
theorem ent_cut {e : En} (h : entOk e = true) (r : Bs) : cutC 59 (entT e ++ r) = some (tx e.1 ++ 61 :: hexT e.2, r) ∧ cutC 61 (tx e.1 ++ 61 :: hexT e.2) = some (tx e.1, hexT e.2) := by
  have h1 : ∀ x ∈ tx e.1, x ≠ 61 ∧ x ≠ 59 := fun x hx => by
    have := range_ne (word_range (word_chars (entOk_iff.1 h).1 x hx)); exact ⟨this.1, this.2.1⟩
  have h2 : ∀ x ∈ hexT e.2, x ≠ 59 := fun x hx => (range_ne (hex_range (hexT_chars _ x hx))).2.1
  refine ⟨?_, cutC_stop fun x hx => (h1 x hx).1⟩
  have e1 : entT e ++ r = (tx e.1 ++ 61 :: hexT e.2) ++ 59 :: r := by unfold entT; simp
  rw [e1]
  refine cutC_stop fun x hx => ?_
  rcases List.mem_append.1 hx with hx | hx
  · exact (h1 x hx).2
  · rcases List.mem_cons.1 hx with rfl | hx
    · decide
    · exact h2 x hx
theorem FC.head {s : Bs} {acc : List En} {rest : Bs} (h : FC s acc rest) (hne : rest ≠ []) {l : List En} (hv : entsV l = true) (hl : foldB l = s) : ∃ e m, l = acc ++ e :: m ∧ rest = entT e ++ m.flatMap entT ∧ entOk e = true := by
  obtain ⟨m, h1, h2⟩ := h l hv hl
  cases m with
  | nil => exact absurd h2 hne
  | cons e m => exact ⟨e, m, h1, by rw [h2, List.flatMap_cons], entsV_ok hv (by rw [h1]; simp)⟩
theorem FC.fail1 {s : Bs} {acc : List En} {rest : Bs} (h : FC s acc rest) (hne : rest ≠ []) (hc : cutC 59 rest = none) : readF s = none := readF_none fun l hv hl => by
  obtain ⟨e, m, _, h2, h3⟩ := h.head hne hv hl
  rw [h2, (ent_cut h3 _).1] at hc; cases hc
theorem FC.fail2 {s : Bs} {acc : List En} {rest p a : Bs} (h : FC s acc rest) (hne : rest ≠ []) (hc : cutC 59 rest = some (p, a)) (hd : cutC 61 p = none) : readF s = none := readF_none fun l hv hl => by
  obtain ⟨e, m, _, h2, h3⟩ := h.head hne hv hl
  rw [h2, (ent_cut h3 _).1] at hc
  injection hc with hc; injection hc with h4 h5
  rw [← h4, (ent_cut h3 []).2] at hd; cases hd
theorem FC.fail3 {s : Bs} {acc : List En} {rest : Bs} (h : FC s acc rest) (hne : rest ≠ []) (hc : 3 ≤ acc.length) : readF s = none := readF_none fun l hv hl => by
  obtain ⟨e, m, h1, _, _⟩ := h.head hne hv hl
  have := entsV_len hv
  rw [h1, List.length_append, List.length_cons] at this; omega
theorem FC.step {s : Bs} {acc : List En} {rest p a n d : Bs} (h : FC s acc rest) (hne : rest ≠ []) (hc : cutC 59 rest = some (p, a)) (hd : cutC 61 p = some (n, d)) : FC s (acc ++ [(mk n, readH d)]) a := fun l hv hl => by
  obtain ⟨e, m, h1, h2, h3⟩ := h.head hne hv hl
  rw [h2, (ent_cut h3 _).1] at hc
  injection hc with hc; injection hc with h4 h5
  rw [← h4, (ent_cut h3 []).2] at hd
  injection hd with hd; injection hd with h6 h7
  refine ⟨m, ?_, h5.symm⟩
  rw [← h6, ← h7, readH_hexT (entOk_iff.1 h3).2, mk_tx, h1]
  simp
theorem FC.done {s : Bs} {acc : List En} (h : FC s acc []) (hs : s ≠ []) : readF s = if foldT acc = s then some acc else none := by
  split
  · rename_i he
    have hv : entsV acc = true := by
      cases hv : entsV acc
      · unfold foldT at he; rw [hv] at he; exact absurd he.symm hs
      · rfl
    unfold foldT at he
    rw [hv, if_pos rfl] at he
    exact readF_iff.2 ⟨hv, he⟩
  · rename_i he
    refine readF_none fun l hv hl => ?_
    obtain ⟨m, h1, h2⟩ := h l hv hl
    have hm : m = [] := by
      cases m with
      | nil => rfl
      | cons e m => rw [List.flatMap_cons] at h2; exact absurd h2.symm (entT_ne _ _)
    subst hm
    rw [List.append_nil] at h1; subst h1
    apply he
    unfold foldT; rw [hv, if_pos rfl, hl]
theorem FC.sfail {s : Bs} {acc : List En} {rest : Bs} (h : FC s acc rest) (hne : rest ≠ []) (hc : ¬ (headC 61 rest).length + (headC 59 (rest.drop (headC 61 rest).length)).length < rest.length) : readF s = none := readF_none fun l hv hl => by
  obtain ⟨e, m, _, h2, h3⟩ := h.head hne hv hl
  apply hc
  have h1 : ∀ x ∈ tx e.1, x ≠ 61 := fun x hx => (range_ne (word_range (word_chars (entOk_iff.1 h3).1 x hx))).1
  have h5 : ∀ x ∈ 61 :: hexT e.2, x ≠ 59 := fun x hx => by
    rcases List.mem_cons.1 hx with rfl | hx
    · decide
    · exact (range_ne (hex_range (hexT_chars _ x hx))).2.1
  have e1 : rest = tx e.1 ++ 61 :: (hexT e.2 ++ 59 :: m.flatMap entT) := by rw [h2]; unfold entT; simp
  have e2 : headC 61 rest = tx e.1 := by rw [e1]; exact headC_stop h1
  have e3 : rest.drop (tx e.1).length = (61 :: hexT e.2) ++ 59 :: m.flatMap entT := by rw [e1, List.drop_left]; rfl
  rw [e2, e3, headC_stop h5, e1]
  simp
theorem FC.sstep {s : Bs} {acc : List En} {rest : Bs} (h : FC s acc rest) (hne : rest ≠ []) :
    FC s (acc ++ [(mk (rest.take (headC 61 rest).length), readH ((rest.drop ((headC 61 rest).length + 1)).take ((headC 59 (rest.drop (headC 61 rest).length)).length - 1)))]) (rest.drop ((headC 61 rest).length + (headC 59 (rest.drop (headC 61 rest).length)).length + 1)) := fun l hv hl => by
  obtain ⟨e, m, h1', h2, h3⟩ := h.head hne hv hl
  have h1 : ∀ x ∈ tx e.1, x ≠ 61 := fun x hx => (range_ne (word_range (word_chars (entOk_iff.1 h3).1 x hx))).1
  have h5 : ∀ x ∈ 61 :: hexT e.2, x ≠ 59 := fun x hx => by
    rcases List.mem_cons.1 hx with rfl | hx
    · decide
    · exact (range_ne (hex_range (hexT_chars _ x hx))).2.1
  have e1 : rest = tx e.1 ++ 61 :: (hexT e.2 ++ 59 :: m.flatMap entT) := by rw [h2]; unfold entT; simp
  have e2 : headC 61 rest = tx e.1 := by rw [e1]; exact headC_stop h1
  have e3 : rest.drop (tx e.1).length = (61 :: hexT e.2) ++ 59 :: m.flatMap entT := by rw [e1, List.drop_left]; rfl
  have e4 : rest.drop ((tx e.1).length + 1) = hexT e.2 ++ 59 :: m.flatMap entT := by rw [← List.drop_drop, e3]; rfl
  have e5 : rest.drop ((tx e.1).length + (61 :: hexT e.2).length + 1) = m.flatMap entT := by
    rw [Nat.add_assoc, ← List.drop_drop, e3, drop_past]
  refine ⟨m, ?_, ?_⟩
  · rw [e2, e3, headC_stop h5, e4]
    have e6 : rest.take (tx e.1).length = tx e.1 := by rw [e1]; exact List.take_left' rfl
    rw [e6, List.length_cons, Nat.add_sub_cancel, List.take_left' rfl, readH_hexT (entOk_iff.1 h3).2, mk_tx, h1']
    simp
  · rw [e2, e3, headC_stop h5, e5]
--END
end Go.Proofs.YtaeaccakkielmaaDoor

/- Entries: the type's facts, slices.Clone, append of one. -/
set_option linter.unusedVariables false
namespace Go.Proofs.YtaeaccakkielmaaDoor
open Go.RowKit
theorem en_info : (Tryd.prog.info? 109).map (fun i => (i.zero, i.size, i.bytes)) = some (some (.agg #[.string ⟨#[]⟩, .int .i64 0]), 2, 24) := by kernel_rfl
theorem oneE : ∀ y, ∀ u ∈ encE y, u.oneCell' = true := by intro y u hu; simp [encE] at hu; rcases hu with rfl | rfl <;> rfl
section
variable {ops : Array Oper} {rest : List Oper} {o : Oper} {a : Act} {Q : Exit → Act → World → Prop} {w0 wr : World} {v : Value}
theorem app_enN {l m : List En} {A : Option Addr} {c : Nat} {s x : Operand} (hgd : o.guard = none) (ho : o.op = .call { callee := .builtin .append, args := #[s, x], argTypes := #[87, 87] })
    (hown : Own wr w0.heap.size 109 2 encE v l) (hb : Below w0.heap.size w0 wr) (hn : l.length + m.length ≤ 33554432) (hsl : Sl wr encE 2 A m) (hcz : A = none → c = 0)
    (hs : a.eval s = v) (hx : a.eval x = .slice A m.length c)
    (h : ∀ v' w', Own w' w0.heap.size 109 2 encE v' (l ++ m) → Below w0.heap.size w0 w' → Grew v wr w' → wpList Tryd.prog ops Q rest (a.put o.dst v') w') : wpList Tryd.prog ops Q (o :: rest) a wr := by
  obtain ⟨i0, hi0, hz0, hz1, hz2⟩ := info_parts en_info
  exact wpList_appN Tryd.underlying87 hi0 hz0 hz1 hz2 rfl (by decide) (by decide) hgd s x ho hown hb (Nat.le_refl _) hb.size hn hsl hcz (fun _ => rfl) oneE hs hx h
theorem app_en {base : Nat} {l : List En} {y : En} {s x : Operand} (hgd : o.guard = none) (ho : o.op = .call { callee := .builtin .append, args := #[s, x], argTypes := #[87, 87] })
    (hs : a.eval s = v) (hx : a.eval x = .slice (some ⟨wr.heap.size, 0, none⟩) 1 1)
    (hown : Own wr base 109 2 encE v l) (hb : Below w0.heap.size w0 wr) (hB : w0.heap.size ≤ base) (hbase : base ≤ wr.heap.size) (hn : l.length ≤ 16777216)
    (h : ∀ v' w', Own w' base 109 2 encE v' (l ++ [y]) → Below w0.heap.size w0 w' → wpList Tryd.prog ops Q rest (a.put o.dst v') w') : wpList Tryd.prog ops Q (o :: rest) a (wr.alloc (.cells #[.string y.1, .int .i64 y.2] 109)) := by
  obtain ⟨i0, hi0, hz0, hz1, hz2⟩ := info_parts en_info
  exact wpList_app1 Tryd.underlying87 hi0 hz0 hz1 hz2 rfl (by decide) (by decide) hgd s x ho hs hx hown hb hB hbase hn y _ rfl rfl (oneE y) h
end
end Go.Proofs.YtaeaccakkielmaaDoor

/- Where a name stands: cmp.Compare of texts, slices.BinarySearchFunc, findEntry, printNamed, walked. -/
set_option linter.unusedVariables false
namespace Go.Proofs.YtaeaccakkielmaaDoor
open Go.RowKit

def FitE (l : List En) : Prop := ∀ p ∈ l, p.1.size ≤ 16777216
def cmpS (a b : ByteArray) : Int := if lessB (tx a) (tx b) then -1 else if lessB (tx b) (tx a) then 1 else 0
theorem less_tl (a b : ByteArray) : Op.bytesLess a.toList b.toList = lessB (tx a) (tx b) := by rw [ByteArray.toList_eq, ByteArray.toList_eq]
theorem eq_tl (a b : ByteArray) : (a.toList == b.toList) = (tx a == tx b) := by rw [ByteArray.toList_eq, ByteArray.toList_eq]
theorem less_ne {a b : ByteArray} (h : lessB (tx a) (tx b) = true) : (tx a == tx b) = false := by
  rw [beq_eq_false_iff_ne]; intro e; rw [e, lessB_irrefl] at h; cases h
def PnRes (l : List En) (x : ByteArray) (w : World) (e : Ending) (w' : World) : Prop := e = .returned (.tuple #[.int .i64 ((getE l (tx x)).getD (-1)), .bool (getE l (tx x)).isSome]) ∧ Below w.heap.size w w'
end Go.Proofs.YtaeaccakkielmaaDoor

/- Trees: levels, roots, proofs. -/
set_option linter.unusedVariables false
namespace Go.Proofs.YtaeaccakkielmaaDoor
open Go.RowKit
theorem new_cell1 (w : World) (u : Value) (E : TypeId) : (w.alloc (.cells #[u] E)).drew.cell? ⟨w.heap.size, 0, none⟩ = some u := by
  show (w.alloc (.cells #[u] E)).cell? ⟨w.heap.size, 0, none⟩ = some u
  rw [cell_of_row _ _ 0 _ E (0, 0) (heap_alloc_new w _)]; rfl
theorem lvlUp_two {l : List Int} {k : Nat} (h : k + 1 < l.length) : lvlUp (l.drop k) = prPair l[k] l[k + 1] :: lvlUp (l.drop (k + 2)) := by
  rw [List.drop_eq_getElem_cons (by omega), List.drop_eq_getElem_cons (by omega)]; rfl
theorem lvlUp_one {l : List Int} {k : Nat} (h : k < l.length) (h2 : ¬ k + 1 < l.length) : lvlUp (l.drop k) = [l[k]] := by
  rw [List.drop_eq_getElem_cons (by omega), List.drop_of_length_le (by omega)]; rfl
theorem lvlUp_none {l : List Int} {k : Nat} (h : ¬ k < l.length) : lvlUp (l.drop k) = [] := by
  rw [List.drop_of_length_le (by omega)]; rfl
theorem lvlUp_drop_end {l : List Int} {k : Nat} (h : k < l.length) (h2 : ¬ k + 1 < l.length) : lvlUp (l.drop (k + 2)) = [] := by
  rw [List.drop_of_length_le (by omega)]; rfl

end Go.Proofs.YtaeaccakkielmaaDoor

/- Trees: valid leaves, the root, and the same of texts. -/
set_option linter.unusedVariables false
namespace Go.Proofs.YtaeaccakkielmaaDoor
open Go.RowKit

theorem lvlUp_length : ∀ (n : Nat) (l : List Int), l.length ≤ n → (lvlUp l).length = (l.length + 1) / 2
  | 0, l, h => by have : l = [] := List.eq_nil_of_length_eq_zero (by omega); subst this; rfl
  | n + 1, l, h => by
    match l, h with
    | [], _ => rfl
    | [a], _ => simp [lvlUp]
    | a :: b :: r, h =>
      have := lvlUp_length n r (by simp at h; omega)
      simp only [lvlUp, List.length_cons, this]; omega
theorem lvlUp_len (l : List Int) : (lvlUp l).length = (l.length + 1) / 2 := lvlUp_length _ l (Nat.le_refl _)
theorem lvlUp_pv : ∀ (n : Nat) (l : List Int), l.length ≤ n → l.all pv = true → (lvlUp l).all pv = true
  | 0, l, h, _ => by have : l = [] := List.eq_nil_of_length_eq_zero (by omega); subst this; rfl
  | n + 1, l, h, ha => by
    match l, h, ha with
    | [], _, _ => rfl
    | [a], _, ha => exact ha
    | a :: b :: r, h, ha =>
      simp only [List.all_cons, Bool.and_eq_true] at ha
      simp only [lvlUp, List.all_cons, Bool.and_eq_true]
      exact ⟨prPair_pv ha.1 ha.2.1, lvlUp_pv n r (by simp at h; omega) ha.2.2⟩
theorem topF_step {f : Nat} {l : List Int} (h : 1 < l.length) : topF (f + 1) l = topF f (lvlUp l) := by
  rw [topF, if_pos h]
theorem topF_one {f : Nat} {l : List Int} (h : l.length = 1) : topF f l = l.headD 0 := by
  cases f with
  | zero => rfl
  | succ f => rw [topF, if_neg (by omega)]
theorem treeRoot_bad {l : List Int} (h : leavesV l = false) : treeRoot l = -1 := by unfold treeRoot; simp [h]
theorem treeRoot_ok {l : List Int} (h : leavesV l = true) : treeRoot l = topF 5 l := by unfold treeRoot; simp [h]
theorem leavesV_iff {l : List Int} : leavesV l = true ↔ 1 ≤ l.length ∧ l.length ≤ 16 ∧ l.all pv = true := by
  unfold leavesV; rw [Bool.and_eq_true, decide_eq_true_eq, and_assoc]
theorem leavesV_len {l : List Int} (h : ¬ (1 ≤ l.length ∧ l.length ≤ 16)) : leavesV l = false := by
  cases hl : leavesV l with
  | false => rfl
  | true => exact absurd ⟨(leavesV_iff.1 hl).1, (leavesV_iff.1 hl).2.1⟩ h
theorem leavesV_all {l : List Int} (h : l.all pv = false) : leavesV l = false := by
  cases hl : leavesV l with
  | false => rfl
  | true => rw [(leavesV_iff.1 hl).2.2] at h; cases h

def lenOf : Value → Nat | .slice _ n _ => n | _ => 0
def Level (l : List Int) (v : Value) (wr : World) : Prop := ∃ (A : Option Addr) (c f : Nat) (m : List Int), v = .slice A m.length c ∧ Sl wr encI 1 A m ∧ 1 ≤ m.length ∧ m.length ≤ 16 ∧ m.length ≤ 2 ^ f ∧ topF 5 l = topF f m

end Go.Proofs.YtaeaccakkielmaaDoor

/- Trees in plain Lean: proofs, roots of proofs; that they meet. -/
set_option linter.unusedVariables false
namespace Go.Proofs.YtaeaccakkielmaaDoor

/-- The root to which a proof leads. -/
def rootF : List Int → Int → Nat → Nat → Int
  | [], p, _, m => if 1 < m then -1 else p
  | x :: r, p, n, m =>
    if m = 1 then -1
    else if m ≤ n ^^^ 1 then (if x = -1 then rootF r p (n / 2) ((m + 1) / 2) else -1)
    else if pv x then rootF r (if n % 2 = 0 then prPair p x else prPair x p) (n / 2) ((m + 1) / 2)
    else -1
def inTree (p n m : Int) : Bool := pv p && decide (1 ≤ m ∧ m ≤ 16) && decide (0 ≤ n ∧ n < m)
def proofRoot (p n m : Int) (l : List Int) : Int := if inTree p n m then rootF l p n.toNat m.toNat else -1

theorem xor1 (n : Nat) : n ^^^ 1 = n + 1 - n % 2 * 2 := by
  have h2 : (n ^^^ 1) / 2 = n / 2 := by
    have := Nat.xor_div_two (a := n) (b := 1)
    simpa using this
  have h := Nat.xor_mod_two_pow (a := n) (b := 1) (n := 1)
  have h3 : n % 2 = 0 ∨ n % 2 = 1 := by omega
  have e0 : (0 ^^^ 1 % 2 : Nat) = 1 := rfl
  have e1 : (1 ^^^ 1 % 2 : Nat) = 0 := rfl
  simp only [Nat.pow_one] at h
  rcases h3 with h3 | h3
  · rw [h3, e0] at h; omega
  · rw [h3, e1] at h; omega
theorem xor1_even {n : Nat} (h : n % 2 = 0) : n ^^^ 1 = n + 1 := by rw [xor1]; omega
theorem xor1_odd {n : Nat} (h : n % 2 = 1) : n ^^^ 1 = n - 1 := by rw [xor1]; omega

theorem proofF_done {f : Nat} {m : List Int} {n : Nat} (h : m.length = 1) : proofF f m n = [] := by
  cases f with
  | zero => rfl
  | succ f => rw [proofF, if_neg (by omega)]
theorem proofF_step {f : Nat} {m : List Int} {n : Nat} (h : 1 < m.length) : proofF (f + 1) m n = (if n ^^^ 1 < m.length then m.getD (n ^^^ 1) 0 else -1) :: proofF f (lvlUp m) (n / 2) := by
  rw [proofF, if_pos h]
theorem proofF_len (f : Nat) : ∀ (m : List Int) (n : Nat), (proofF f m n).length ≤ f := by
  induction f with
  | zero => intro m n; simp [proofF]
  | succ f ih =>
    intro m n; rw [proofF]; split
    · simp; exact ih _ _
    · simp
theorem treeProof_bad {l : List Int} {n : Int} (h : leavesV l = false ∨ n < 0 ∨ (l.length : Int) ≤ n) : treeProof l n = [] := by
  unfold treeProof; rw [if_neg]; rintro ⟨h1, h2, h3⟩
  rcases h with h | h | h
  · rw [h] at h1; cases h1
  · omega
  · omega
theorem treeProof_ok {l : List Int} {n : Int} (h : leavesV l = true) (h0 : 0 ≤ n) (h1 : n < l.length) : treeProof l n = proofF 5 l n.toNat := by
  unfold treeProof; rw [if_pos ⟨h, h0, h1⟩]
theorem treeProof_len (l : List Int) (n : Int) : (treeProof l n).length ≤ 5 := by
  unfold treeProof; split
  · exact proofF_len _ _ _
  · simp

theorem lvlUp_at : ∀ (k : Nat) (l : List Int) (d : Int), (lvlUp l).getD k d = if 2 * k + 1 < l.length then prPair (l.getD (2 * k) d) (l.getD (2 * k + 1) d) else l.getD (2 * k) d
  | 0, [], d => rfl
  | 0, [a], d => rfl
  | 0, a :: b :: r, d => by simp [lvlUp]
  | k + 1, [], d => by simp [lvlUp]
  | k + 1, [a], d => by simp [lvlUp]
  | k + 1, a :: b :: r, d => by
    have ih := lvlUp_at k r d
    show (prPair a b :: lvlUp r).getD (k + 1) d = _
    have e : 2 * (k + 1) = 2 * k + 1 + 1 := by omega
    rw [List.getD_cons_succ, ih, e]
    simp only [List.length_cons, List.getD_cons_succ]
    have e2 : 2 * k + 1 + 1 + 1 < r.length + 1 + 1 ↔ 2 * k + 1 < r.length := by omega
    simp only [e2]
theorem getD_pv {l : List Int} (h : l.all pv = true) {k : Nat} (hk : k < l.length) (d : Int) : pv (l.getD k d) = true := by
  rw [List.getD_eq_getElem?_getD, List.getElem?_eq_getElem hk]
  exact List.all_eq_true.1 h _ (by simp)

/-- A proof leads to the root. -/
theorem root_of_proof (f : Nat) : ∀ (l : List Int) (n : Nat), l.all pv = true → n < l.length → l.length ≤ 2 ^ f → rootF (proofF f l n) (l.getD n 0) n l.length = topF f l := by
  induction f with
  | zero =>
    intro l n hp hn hl
    have h1 : l.length = 1 := by simp at hl; omega
    obtain ⟨x, rfl⟩ : ∃ x, l = [x] := by
      match l, h1 with
      | [x], _ => exact ⟨x, rfl⟩
    have : n = 0 := by simp at hn; omega
    subst this
    simp [proofF, rootF, topF]
  | succ f ih =>
    intro l n hp hn hl
    by_cases h1 : 1 < l.length
    · rw [proofF_step h1, topF_step h1]
      have hlen := lvlUp_len l
      have hup := lvlUp_pv _ l (Nat.le_refl _) hp
      have hih := ih (lvlUp l) (n / 2) hup (by omega) (by rw [hlen]; simp only [Nat.pow_succ] at hl; omega)
      have hat := lvlUp_at (n / 2) l 0
      rw [rootF, if_neg (by omega)]
      by_cases hb : n ^^^ 1 < l.length
      · rw [if_neg (by omega), if_pos hb, if_pos (getD_pv hp hb 0), ← hih]
        rw [hlen]
        congr 1
        rw [hat]
        by_cases he : n % 2 = 0
        · rw [if_pos he, xor1_even he] at *
          have e : 2 * (n / 2) = n := by omega
          rw [e, if_pos hb]
        · have ho : n % 2 = 1 := by omega
          rw [if_neg he, xor1_odd ho] at *
          have e : 2 * (n / 2) = n - 1 := by omega
          have e2 : n - 1 + 1 = n := by omega
          rw [e, e2, if_pos hn]
      · rw [if_pos (by omega), if_neg hb, if_pos rfl, ← hih, hlen]
        congr 1
        rw [hat]
        have he : n % 2 = 0 := by
          by_cases he : n % 2 = 0
          · exact he
          · exfalso; rw [xor1_odd (by omega)] at hb; omega
        rw [xor1_even he] at hb
        have e : 2 * (n / 2) = n := by omega
        rw [e, if_neg hb]
    · have h2 : l.length = 1 := by omega
      rw [proofF_done h2, topF_one h2, rootF, if_neg (by omega)]
      have : n = 0 := by omega
      subst this
      cases l <;> rfl
theorem topF_pv (f : Nat) : ∀ l : List Int, l.all pv = true → 1 ≤ l.length → pv (topF f l) = true := by
  induction f with
  | zero => intro l hp hl; rw [topF]; cases l with
    | nil => simp at hl
    | cons a r => simp only [List.all_cons, Bool.and_eq_true] at hp; exact hp.1
  | succ f ih =>
    intro l hp hl
    rw [topF]
    split
    · exact ih _ (lvlUp_pv _ l (Nat.le_refl _) hp) (by rw [lvlUp_len]; omega)
    · cases l with
      | nil => simp at hl
      | cons a r => simp only [List.all_cons, Bool.and_eq_true] at hp; exact hp.1
theorem treeRoot_pv {l : List Int} (h : leavesV l = true) : pv (treeRoot l) = true := by
  obtain ⟨h1, h2, h3⟩ := leavesV_iff.1 h
  rw [treeRoot_ok h]; exact topF_pv 5 l h3 h1
theorem treeRoot_bd (l : List Int) : -1 ≤ treeRoot l ∧ treeRoot l ≤ 16777212 := by
  cases h : leavesV l
  · rw [treeRoot_bad h]; omega
  · have := pv_iff.1 (treeRoot_pv h); omega
theorem treeRoot_neg {l : List Int} (h : treeRoot l < 0) : leavesV l = false := by
  cases hl : leavesV l
  · rfl
  · have := pv_iff.1 (treeRoot_pv hl); omega
theorem treeRoot_nonneg {l : List Int} (h : ¬ treeRoot l < 0) : leavesV l = true := by
  cases hl : leavesV l
  · rw [treeRoot_bad hl] at h; omega
  · rfl
/-- The proof of a leaf leads to the root. -/
theorem proofRoot_tree {l : List Int} {n : Int} (h : leavesV l = true) (h0 : 0 ≤ n) (h1 : n < l.length) : proofRoot (l.getD n.toNat 0) n l.length (treeProof l n) = treeRoot l := by
  obtain ⟨hl1, hl2, hp⟩ := leavesV_iff.1 h
  have hin : inTree (l.getD n.toNat 0) n l.length = true := by
    unfold inTree
    rw [getD_pv hp (by omega), Bool.true_and, Bool.and_eq_true]
    exact ⟨decide_eq_true (by omega), decide_eq_true (by omega)⟩
  unfold proofRoot
  rw [if_pos hin, treeProof_ok h h0 h1, treeRoot_ok h]
  have := root_of_proof 5 l n.toNat hp (by omega) (by omega)
  simpa using this
theorem rootF_bd : ∀ (l : List Int) (p : Int) (n m : Nat), -1 ≤ p ∧ p ≤ 16777212 → -1 ≤ rootF l p n m ∧ rootF l p n m ≤ 16777212
  | [], p, n, m, h => by rw [rootF]; split <;> omega
  | x :: r, p, n, m, h => by
    rw [rootF]
    split
    · omega
    · split
      · split
        · exact rootF_bd r p _ _ h
        · omega
      · split
        · refine rootF_bd r _ _ _ ?_
          split <;> exact prPair_bd _ _
        · omega
theorem proofRoot_bd (p n m : Int) (l : List Int) : -1 ≤ proofRoot p n m l ∧ proofRoot p n m l ≤ 16777212 := by
  unfold proofRoot; split
  · rename_i h
    have hp : pv p = true := by unfold inTree at h; simp only [Bool.and_eq_true] at h; exact h.1.1
    have := pv_iff.1 hp
    exact rootF_bd _ _ _ _ (by omega)
  · omega
end Go.Proofs.YtaeaccakkielmaaDoor

/- Trees: proofs, walked. -/
set_option linter.unusedVariables false
namespace Go.Proofs.YtaeaccakkielmaaDoor
open Go.RowKit

theorem i64_xor_nat (a b : Nat) (ha : a < 9223372036854775808) (hb : b < 9223372036854775808) : bits .xor .i64 (a : Int) (b : Int) = ((a ^^^ b : Nat) : Int) := by
  show IntKind.i64.wrap ((BitVec.ofInt 64 (a : Int) ^^^ BitVec.ofInt 64 (b : Int)).toNat : Int) = _
  rw [BitVec.toNat_xor, ofInt_i64 a ha, ofInt_i64 b hb, IntKind.wrap_i64]
  have := Nat.xor_lt_two_pow (n := 63) (x := a) (y := b) (by simpa using ha) (by simpa using hb)
  omega
theorem xor1_int (N : Nat) (h : N ≤ 1000) : bits .xor .i64 (N : Int) 1 = ((N ^^^ 1 : Nat) : Int) := i64_xor_nat N 1 (by omega) (by omega)

/-- One level of a tree on the way of a proof: what was written so far, what is to come. -/
def ProofAt (l : List Int) (n : Nat) (acc m : List Int) (N : Nat) : Prop := ∃ f, m.length ≤ 2 ^ f ∧ proofF 5 l n = acc ++ proofF f m N
theorem ProofAt.start {l : List Int} {n : Nat} (h : l.length ≤ 16) : ProofAt l n [] l n := ⟨5, by omega, rfl⟩
theorem ProofAt.len {l : List Int} {n : Nat} {acc m : List Int} {N : Nat} (h : ProofAt l n acc m N) : acc.length ≤ 5 := by
  obtain ⟨f, _, e⟩ := h
  have := proofF_len 5 l n
  rw [e, List.length_append] at this; omega
theorem ProofAt.step {l : List Int} {n : Nat} {acc m : List Int} {N : Nat} (h : ProofAt l n acc m N) (h1 : 1 < m.length) (x : Int) (hx : x = if N ^^^ 1 < m.length then m.getD (N ^^^ 1) 0 else -1) : ProofAt l n (acc ++ [x]) (lvlUp m) (N / 2) := by
  obtain ⟨f, hf, e⟩ := h
  cases f with
  | zero => simp at hf; omega
  | succ f =>
    refine ⟨f, ?_, ?_⟩
    · rw [lvlUp_len]; simp only [Nat.pow_succ] at hf; omega
    · rw [e, proofF_step h1, ← hx]; simp
theorem ProofAt.done {l : List Int} {n : Nat} {acc m : List Int} {N : Nat} (h : ProofAt l n acc m N) (h1 : m.length = 1) : proofF 5 l n = acc := by
  obtain ⟨f, hf, e⟩ := h
  rw [e, proofF_done h1, List.append_nil]
theorem getD_of_lt {m : List Int} {k : Nat} (h : k < m.length) : m.getD k 0 = m[k] := by rw [List.getD_eq_getElem?_getD, List.getElem?_eq_getElem h]; rfl
/-- A level that is read: no part of what is written. -/
def LvlIn (w0 wr : World) (v : Value) (m : List Int) (A : Option Addr) : Prop := Sl wr encI 1 A m ∧ Apart A v

end Go.Proofs.YtaeaccakkielmaaDoor

/- Roots of proofs, walked. -/
set_option linter.unusedVariables false
namespace Go.Proofs.YtaeaccakkielmaaDoor
open Go.RowKit

theorem rootF_one {x p : Int} {r : List Int} {N : Nat} : rootF (x :: r) p N 1 = -1 := by rw [rootF, if_pos rfl]
theorem rootF_alone {p : Int} {r : List Int} {N M : Nat} (h1 : M ≠ 1) (h2 : M ≤ N ^^^ 1) : rootF (-1 :: r) p N M = rootF r p (N / 2) ((M + 1) / 2) := by rw [rootF, if_neg h1, if_pos h2, if_pos rfl]
theorem rootF_alone_bad {x p : Int} {r : List Int} {N M : Nat} (h1 : M ≠ 1) (h2 : M ≤ N ^^^ 1) (hx : x ≠ -1) : rootF (x :: r) p N M = -1 := by rw [rootF, if_neg h1, if_pos h2, if_neg hx]
theorem rootF_bad {x p : Int} {r : List Int} {N M : Nat} (h1 : M ≠ 1) (h2 : ¬ M ≤ N ^^^ 1) (hx : pv x = false) : rootF (x :: r) p N M = -1 := by rw [rootF, if_neg h1, if_neg h2, if_neg (by rw [hx]; simp)]
theorem rootF_left {x p : Int} {r : List Int} {N M : Nat} (h1 : M ≠ 1) (h2 : ¬ M ≤ N ^^^ 1) (hx : pv x = true) (h : N % 2 = 0) : rootF (x :: r) p N M = rootF r (prPair p x) (N / 2) ((M + 1) / 2) := by rw [rootF, if_neg h1, if_neg h2, if_pos hx, if_pos h]
theorem rootF_right {x p : Int} {r : List Int} {N M : Nat} (h1 : M ≠ 1) (h2 : ¬ M ≤ N ^^^ 1) (hx : pv x = true) (h : ¬ N % 2 = 0) : rootF (x :: r) p N M = rootF r (prPair x p) (N / 2) ((M + 1) / 2) := by rw [rootF, if_neg h1, if_neg h2, if_pos hx, if_neg h]
theorem rootF_end {p : Int} {N M : Nat} : rootF [] p N M = if 1 < M then -1 else p := rfl
theorem inTree_iff {p n m : Int} : inTree p n m = true ↔ pv p = true ∧ (1 ≤ m ∧ m ≤ 16) ∧ (0 ≤ n ∧ n < m) := by
  unfold inTree; simp only [Bool.and_eq_true, decide_eq_true_eq, and_assoc]
theorem proofRoot_out {p n m : Int} {l : List Int} (h : inTree p n m = false) : proofRoot p n m l = -1 := by unfold proofRoot; rw [h]; rfl
theorem inTree_bad {p n m : Int} (h : ¬ (pv p = true ∧ (1 ≤ m ∧ m ≤ 16) ∧ (0 ≤ n ∧ n < m))) : inTree p n m = false := by
  cases hh : inTree p n m
  · rfl
  · exact absurd (inTree_iff.1 hh) h
/-- How a proof is read: what is left to be reckoned. -/
def RootAt (l : List Int) (R : Int) (k : Nat) (p : Int) (N M : Nat) : Prop := R = rootF (l.drop k) p N M
theorem RootAt.cons {l : List Int} {R p : Int} {k N M : Nat} (h : RootAt l R k p N M) (hk : k < l.length) : R = rootF (l[k] :: l.drop (k + 1)) p N M := by
  unfold RootAt at h; rw [h, List.drop_eq_getElem_cons hk]
theorem RootAt.nil {l : List Int} {R p : Int} {k N M : Nat} (h : RootAt l R k p N M) (hk : ¬ k < l.length) : R = if 1 < M then -1 else p := by
  unfold RootAt at h; rw [h, List.drop_of_length_le (by omega)]; rfl

theorem inI_pv {x : Int} (h : inI x (-1) 16777212 = true) (hx : x ≠ -1) : pv x = true := by
  simp only [inI, decide_eq_true_eq] at h; exact pv_iff.2 (by omega)
theorem inI_bad {x : Int} (h : inI x (-1) 16777212 = false) : pv x = false ∧ x ≠ -1 := by
  simp only [inI, decide_eq_false_iff_not] at h
  exact ⟨pv_false.2 (by omega), by omega⟩
theorem alone_iff {N M : Nat} (hN : N < M) : M ≤ N ^^^ 1 ↔ N % 2 = 0 ∧ N + 1 = M := by
  by_cases h : N % 2 = 0
  · rw [xor1_even h]; omega
  · rw [xor1_odd (by omega)]; omega
end Go.Proofs.YtaeaccakkielmaaDoor

/- StoreValid, BundlePrint, walked. -/
set_option linter.unusedVariables false
namespace Go.Proofs.YtaeaccakkielmaaDoor
open Go.RowKit

theorem storeAt_eq {l : List Pc} {k : Nat} (hk : k < l.length) : storeAt l k = ((textV (bs l[k].2) && (prOf (bs l[k].2) == l[k].1)) && (k == 0 || decide ((l.getD (k - 1) pc0).1 < l[k].1))) := by
  unfold storeAt pieceOk; rw [getD_pc hk]
theorem storeAt_txt {l : List Pc} {k : Nat} (hk : k < l.length) (h : textV (bs l[k].2) = false) : storeAt l k = false := by rw [storeAt_eq hk, h]; rfl
theorem storeAt_pr {l : List Pc} {k : Nat} (hk : k < l.length) (h : ¬ prOf (bs l[k].2) = l[k].1) : storeAt l k = false := by
  rw [storeAt_eq hk, (show (prOf (bs l[k].2) == l[k].1) = false by simpa using h), Bool.and_false]; rfl
theorem storeAt_asc {l : List Pc} {k : Nat} (hk : k < l.length) (h0 : k ≠ 0) (h : ¬ (l.getD (k - 1) pc0).1 < l[k].1) : storeAt l k = false := by
  rw [storeAt_eq hk, decide_eq_false h, (show (k == 0) = false by simpa using h0), Bool.or_false, Bool.and_false]
theorem storeAt_ok {l : List Pc} {k : Nat} (hk : k < l.length) (h1 : textV (bs l[k].2) = true) (h2 : prOf (bs l[k].2) = l[k].1) (h3 : k = 0 ∨ (l.getD (k - 1) pc0).1 < l[k].1) : storeAt l k = true := by
  rw [storeAt_eq hk, h1, (show (prOf (bs l[k].2) == l[k].1) = true by simpa using h2)]
  rcases h3 with h3 | h3
  · subst h3; rfl
  · rw [decide_eq_true h3, Bool.or_true]; rfl
theorem cell_allocP {u : Value} {w : World} {x : Obj} {a : Addr} (hc : w.cell? a = some u) : (w.alloc x).cell? a = some u :=
  (World.cell?_alloc_lt w x a (World.block_lt_of_cell? w _ hc)).trans hc
/-- The cell of the piece before. -/
theorem prev_cell {w : World} {b o : Nat} {l : List Pc} {k : Nat} (h : Sl w encP 2 (some ⟨b, o, none⟩) l) (hk : k < l.length) (h0 : k ≠ 0) : w.cell? ⟨b, o + (k - 1) * 2, none⟩ = some (.int .i64 (l.getD (k - 1) pc0).1) := by
  obtain ⟨b', o', e, h', _⟩ := h.getP (k := k - 1) (by omega)
  injection e with e; injection e with e1 e2
  rw [e1, e2, getD_pc (by omega)]; exact h'
set_option maxHeartbeats 4000000 in
set_option maxRecDepth 100000 in
theorem iStoreValid_any (A : Option Addr) (c : Nat) (l : List Pc) (w : World) (hs : Sl w encP 2 A l) (hl : l.length ≤ 16777216) (hf : FitP l) :
    Calls Tryd.prog 23 #[.slice A l.length c] w fun e w' => e = .returned (.bool (storeV l)) ∧ Below w.heap.size w w' := by
  have HS := Lib.hid hs
  have HF := Lib.hid hf
  clear hs hf
  by_cases h40 : l.length ≤ 40
  case neg =>
    have E := Lib.hid (storeV_long h40)
    go_enter Tryd.func23, Tryd.ntmps23
    go_wp2
    go_ret
    exact ⟨ret_bool E.out.symm, Below.refl _ _⟩
  go_enter Tryd.func23, Tryd.ntmps23
  go_wp2
  go_loopw [10] (fun i wr => ∃ (k : Nat), k ≤ l.length ∧ i = .int .i64 k ∧ Hid (StoreUpto l k) ∧ Hid (Below w.heap.size w wr)) (fun i _ => l.length - (intOf i).toNat)
  case atStart => exact ⟨0, Nat.zero_le _, rfl, StoreUpto.zero l, Below.refl _ _⟩
  case round =>
    obtain ⟨k, hk, rfl, hh, HB⟩ := hrel
    by_cases hlt : k < l.length
    · have hsk := HS.out.below HB.out
      obtain ⟨b, o, rfl, hc0, hc1⟩ := hsk.getP hlt
      have hfk := HF.out.at hlt
      have hpv := @prev_cell _ _ _ _ k hsk hlt
      have H1 := Lib.hid (fun h => storeV_bad hlt (storeAt_txt hlt h))
      have H2 := Lib.hid (fun h => storeV_bad hlt (storeAt_pr hlt h))
      have H3 := Lib.hid (fun h0 h => storeV_bad hlt (storeAt_asc hlt h0 h))
      have H4 := Lib.hid (fun h1 h2 h3 => hh.out.succ (storeAt_ok hlt h1 h2 h3))
      have HB2 := Lib.hid (HB.out.alloc HB.out.size (.cells #[.int .i64 l[k].1, .string l[k].2] 58))
      have hx0 := far_cell (new_cell (w := wr) (cs := #[.int .i64 l[k].1, .string l[k].2]) (E := 58) (k := 0) rfl)
      have hx1 := far_cell (new_cell (w := wr) (cs := #[.int .i64 l[k].1, .string l[k].2]) (E := 58) (k := 1) rfl)
      clear hsk
      generalize (l.getD (k - 1) pc0).1 = z at *
      generalize l[k] = p at *
      obtain ⟨a, t⟩ := p
      simp only at *
      have hTV := fun w => iTextValid_any t w hfk
      cases h1 : textV (bs t)
      · have HE := Lib.hid (H1.out h1)
        rw [h1] at hTV
        have HTV := Lib.hid hTV
        clear hTV h1 H1 H2 H3 H4 hpv
        go_wp2
        refine wp_region_far (by kernel_rfl) (by kernel_rfl) ?_
        repeat (go_big_quiet_step ((go_at_call 45; exact far_same (HTV.out _))))
        refine wpQuiet_nil ?_
        intro _ hwF
        obtain ⟨pF, hwF⟩ := hwF
        subst hwF
        have HB5 := Lib.hid (Below_then HB2.out (far_below _ pF) (Nat.le_refl _))
        generalize far _ pF = wF at *
        go_wp2
        go_ret
        exact ⟨ret_bool HE.out.symm, HB5.out⟩
      · rw [h1] at hTV
        have HTV := Lib.hid hTV
        have hPO := fun w => iPrintOf_any t w hfk
        generalize hq : prOf (bs t) = q at *
        have HPO := Lib.hid hPO
        clear hTV hPO
        by_cases h2 : q = a
        · subst h2
          have hq2 : (q != q) = false := by simp
          by_cases h0 : k = 0
          · have HN := Lib.hid (H4.out h1 rfl (.inl h0))
            clear H1 H2 H3 H4 hpv
            have hk0 : decide (0 < k) = false := decide_eq_false (by omega)
            clear h0
            go_wp2
            refine wp_region_far (by kernel_rfl) (by kernel_rfl) ?_
            repeat (go_big_quiet_step ((first | (go_at_call 45; exact far_same (HTV.out _)) | (go_at_call 46; exact far_same (HPO.out _)))))
            refine wpQuiet_nil ?_
            intro _ hwF
            obtain ⟨pF, hwF⟩ := hwF
            subst hwF
            have HB5 := Lib.hid (Below_then HB2.out (far_below _ pF) (Nat.le_refl _))
            generalize far _ pF = wF at *
            go_wp2
            refine wp_region_far (by kernel_rfl) (by kernel_rfl) ?_
            repeat (go_big_quiet_step (fail))
            refine wpQuiet_nil ?_
            intro _ hwF
            obtain ⟨pF, hwF⟩ := hwF
            subst hwF
            have HB6 := Lib.hid (Below_then HB5.out (far_below _ pF) (Nat.le_refl _))
            generalize far _ pF = wG at *
            go_wp2
            go_roundw
            case rel => exact ⟨k + 1, by omega, by go_num, HN.out, HB6.out⟩
            case measure => simp [intOf]; omega
          · have hp1 := far_cell (cell_allocP (x := (.cells #[.int .i64 q, .string t] 58)) (hpv h0))
            have hk1 : 0 < k := by omega
            have hk2 : IntKind.i64.wrap ((k : Int) - 1) = (k : Int) - 1 := IntWalk.i64_in _ (by omega)
            have hk3 : (0 : Int) ≤ (k : Int) - 1 := by omega
            have hk4 : (k : Int) - 1 < (l.length : Int) := by omega
            have hk5 : ((k : Int) - 1).toNat = k - 1 := by omega
            by_cases h3 : z < q
            · have HN := Lib.hid (H4.out h1 rfl (.inr h3))
              clear H1 H2 H3 H4 hpv
              go_wp2
              refine wp_region_far (by kernel_rfl) (by kernel_rfl) ?_
              repeat (go_big_quiet_step ((first | (go_at_call 45; exact far_same (HTV.out _)) | (go_at_call 46; exact far_same (HPO.out _)))))
              refine wpQuiet_nil ?_
              intro _ hwF
              obtain ⟨pF, hwF⟩ := hwF
              subst hwF
              have HB5 := Lib.hid (Below_then HB2.out (far_below _ pF) (Nat.le_refl _))
              have hy0 := far_cell (hx0 pF)
              have hy1 := far_cell (hp1 pF)
              clear hx0 hx1 hp1
              generalize far _ pF = wF at *
              go_wp2
              refine wp_region_far (by kernel_rfl) (by kernel_rfl) ?_
              repeat (go_big_quiet_step (fail))
              refine wpQuiet_nil ?_
              intro _ hwF
              obtain ⟨pF, hwF⟩ := hwF
              subst hwF
              have HB6 := Lib.hid (Below_then HB5.out (far_below _ pF) (Nat.le_refl _))
              clear hy0 hy1
              generalize far _ pF = wG at *
              go_wp2
              go_roundw
              case rel => exact ⟨k + 1, by omega, by go_num, HN.out, HB6.out⟩
              case measure => simp [intOf]; omega
            · have HE := Lib.hid (H3.out h0 h3)
              clear H1 H2 H3 H4 hpv
              go_wp2
              refine wp_region_far (by kernel_rfl) (by kernel_rfl) ?_
              repeat (go_big_quiet_step ((first | (go_at_call 45; exact far_same (HTV.out _)) | (go_at_call 46; exact far_same (HPO.out _)))))
              refine wpQuiet_nil ?_
              intro _ hwF
              obtain ⟨pF, hwF⟩ := hwF
              subst hwF
              have HB5 := Lib.hid (Below_then HB2.out (far_below _ pF) (Nat.le_refl _))
              have hy0 := far_cell (hx0 pF)
              have hy1 := far_cell (hp1 pF)
              clear hx0 hx1 hp1
              generalize far _ pF = wF at *
              go_wp2
              refine wp_region_far (by kernel_rfl) (by kernel_rfl) ?_
              repeat (go_big_quiet_step (fail))
              refine wpQuiet_nil ?_
              intro _ hwF
              obtain ⟨pF, hwF⟩ := hwF
              subst hwF
              have HB6 := Lib.hid (Below_then HB5.out (far_below _ pF) (Nat.le_refl _))
              clear hy0 hy1
              generalize far _ pF = wG at *
              go_wp2
              go_ret
              exact ⟨ret_bool HE.out.symm, HB6.out⟩
        · have HE := Lib.hid (H2.out h2)
          have hq2 : (a != q) = true := by simpa using fun e => h2 e.symm
          clear H1 H2 H3 H4 hpv
          go_wp2
          refine wp_region_far (by kernel_rfl) (by kernel_rfl) ?_
          repeat (go_big_quiet_step ((first | (go_at_call 45; exact far_same (HTV.out _)) | (go_at_call 46; exact far_same (HPO.out _)))))
          refine wpQuiet_nil ?_
          intro _ hwF
          obtain ⟨pF, hwF⟩ := hwF
          subst hwF
          have HB5 := Lib.hid (Below_then HB2.out (far_below _ pF) (Nat.le_refl _))
          generalize far _ pF = wF at *
          go_wp2
          go_ret
          exact ⟨ret_bool HE.out.symm, HB5.out⟩
    · have HE := Lib.hid (hh.out.done hlt h40)
      go_wp2
      go_ret
      exact ⟨ret_bool HE.out.symm, HB.out⟩
set_option maxHeartbeats 8000000 in
set_option maxRecDepth 100000 in
theorem sStoreValid_any (A : Option Addr) (c : Nat) (l : List Pc) (w : World) (hs : Sl w encP 2 A l) (hl : l.length ≤ 16777216) (hf : FitP l) :
    Calls Tryd.prog 18 #[.slice A l.length c] w fun e w' => e = .returned (.bool (storeV l)) ∧ Below w.heap.size w w' := by
  have HS := Lib.hid hs
  have HF := Lib.hid hf
  clear hs hf
  go_enter Tryd.func18, Tryd.ntmps18
  go_wp2
  go_loopw [3] (fun i wr => ∃ (k : Nat), k ≤ l.length ∧ i = .int .i64 k ∧ Hid (StoreUpto l k) ∧ Hid (Below w.heap.size w wr)) (fun i _ => l.length - (intOf i).toNat)
  case atStart => exact ⟨0, Nat.zero_le _, rfl, StoreUpto.zero l, Below.refl _ _⟩
  case round =>
    obtain ⟨k, hk, rfl, hh, HB⟩ := hrel
    by_cases hlt : k < l.length
    · have hsk := HS.out.below HB.out
      obtain ⟨b, o, rfl, hc0, hc1⟩ := hsk.getP hlt
      have hfk := HF.out.at hlt
      have hpv := @prev_cell _ _ _ _ k hsk hlt
      have H1 := Lib.hid (fun h => storeV_bad hlt (storeAt_txt hlt h))
      have H2 := Lib.hid (fun h => storeV_bad hlt (storeAt_pr hlt h))
      have H3 := Lib.hid (fun h0 h => storeV_bad hlt (storeAt_asc hlt h0 h))
      have H4 := Lib.hid (fun h1 h2 h3 => hh.out.succ (storeAt_ok hlt h1 h2 h3))
      have hx0 := far_cell hc0
      have hx1 := far_cell hc1
      clear hsk hc0 hc1
      generalize (l.getD (k - 1) pc0).1 = z at *
      generalize l[k] = p at *
      obtain ⟨a, t⟩ := p
      simp only at *
      have hTV := fun w => sTextValid_any t w hfk
      cases h1 : textV (bs t)
      · have HE := Lib.hid (H1.out h1)
        rw [h1] at hTV
        have HTV := Lib.hid hTV
        clear hTV h1 H1 H2 H3 H4 hpv
        go_wp2
        refine wp_region_far (by kernel_rfl) (by kernel_rfl) ?_
        repeat (go_big_quiet_step ((go_at_call 36; exact far_same (HTV.out _))))
        refine wpQuiet_nil ?_
        intro _ hwF
        obtain ⟨pF, hwF⟩ := hwF
        subst hwF
        have HB5 := Lib.hid (Below_then HB.out (far_below _ pF) (Nat.le_refl _))
        generalize far _ pF = wF at *
        go_wp2
        go_ret
        exact ⟨ret_bool HE.out.symm, HB5.out⟩
      · rw [h1] at hTV
        have HTV := Lib.hid hTV
        have hPO := fun w => sPrintOf_any t w hfk
        generalize hq : prOf (bs t) = q at *
        have HPO := Lib.hid hPO
        clear hTV hPO
        by_cases h2 : q = a
        · subst h2
          by_cases h0 : k = 0
          · have HN := Lib.hid (H4.out h1 rfl (.inl h0))
            clear H1 H2 H3 H4 hpv
            have hk0 : decide (0 < k) = false := decide_eq_false (by omega)
            clear h0
            go_wp2
            refine wp_region_far (by kernel_rfl) (by kernel_rfl) ?_
            repeat (go_big_quiet_step ((first | (go_at_call 36; exact far_same (HTV.out _)) | (go_at_call 37; exact far_same (HPO.out _)))))
            refine wpQuiet_nil ?_
            intro _ hwF
            obtain ⟨pF, hwF⟩ := hwF
            subst hwF
            have HB5 := Lib.hid (Below_then HB.out (far_below _ pF) (Nat.le_refl _))
            generalize far _ pF = wF at *
            go_wp2
            go_roundw
            case rel => exact ⟨k + 1, by omega, by go_num, HN.out, HB5.out⟩
            case measure => simp [intOf]; omega
          · have hp1 := far_cell (hpv h0)
            have hk1 : 0 < k := by omega
            have hk2 : IntKind.i64.wrap ((k : Int) - 1) = (k : Int) - 1 := IntWalk.i64_in _ (by omega)
            have hk3 : (0 : Int) ≤ (k : Int) - 1 := by omega
            have hk4 : (k : Int) - 1 < (l.length : Int) := by omega
            have hk5 : ((k : Int) - 1).toNat = k - 1 := by omega
            by_cases h3 : z < q
            · have HN := Lib.hid (H4.out h1 rfl (.inr h3))
              clear H1 H2 H3 H4 hpv
              go_wp2
              refine wp_region_far (by kernel_rfl) (by kernel_rfl) ?_
              repeat (go_big_quiet_step ((first | (go_at_call 36; exact far_same (HTV.out _)) | (go_at_call 37; exact far_same (HPO.out _)))))
              refine wpQuiet_nil ?_
              intro _ hwF
              obtain ⟨pF, hwF⟩ := hwF
              subst hwF
              have HB5 := Lib.hid (Below_then HB.out (far_below _ pF) (Nat.le_refl _))
              clear hx0 hx1 hp1
              generalize far _ pF = wF at *
              go_wp2
              go_roundw
              case rel => exact ⟨k + 1, by omega, by go_num, HN.out, HB5.out⟩
              case measure => simp [intOf]; omega
            · have HE := Lib.hid (H3.out h0 h3)
              clear H1 H2 H3 H4 hpv
              go_wp2
              refine wp_region_far (by kernel_rfl) (by kernel_rfl) ?_
              repeat (go_big_quiet_step ((first | (go_at_call 36; exact far_same (HTV.out _)) | (go_at_call 37; exact far_same (HPO.out _)))))
              refine wpQuiet_nil ?_
              intro _ hwF
              obtain ⟨pF, hwF⟩ := hwF
              subst hwF
              have HB5 := Lib.hid (Below_then HB.out (far_below _ pF) (Nat.le_refl _))
              clear hx0 hx1 hp1
              generalize far _ pF = wF at *
              go_wp2
              go_ret
              exact ⟨ret_bool HE.out.symm, HB5.out⟩
        · have HE := Lib.hid (H2.out h2)
          have hq2 : (q != a) = true := by simpa using h2
          clear H1 H2 H3 H4 hpv
          go_wp2
          refine wp_region_far (by kernel_rfl) (by kernel_rfl) ?_
          repeat (go_big_quiet_step ((first | (go_at_call 36; exact far_same (HTV.out _)) | (go_at_call 37; exact far_same (HPO.out _)))))
          refine wpQuiet_nil ?_
          intro _ hwF
          obtain ⟨pF, hwF⟩ := hwF
          subst hwF
          have HB5 := Lib.hid (Below_then HB.out (far_below _ pF) (Nat.le_refl _))
          generalize far _ pF = wF at *
          go_wp2
          go_ret
          exact ⟨ret_bool HE.out.symm, HB5.out⟩
    · have HD := Lib.hid (fun h40 => hh.out.done hlt h40)
      have HL := Lib.hid (@storeV_long l)
      by_cases h40 : l.length ≤ 40
      · have HE := Lib.hid (HD.out h40)
        go_wp2
        go_ret
        exact ⟨ret_bool (by rw [HE.out]; simp; omega), HB.out⟩
      · have HE := Lib.hid (HL.out h40)
        go_wp2
        go_ret
        exact ⟨ret_bool (by rw [HE.out]; simp; omega), HB.out⟩
def bundF (l : List Pc) : Int := l.foldl (fun n p => prPair n p.1) 13
def bundP (l : List Pc) : Int := if storeV l then bundF l else -1
theorem bundF_take {l : List Pc} {k : Nat} (h : k < l.length) : bundF (l.take (k + 1)) = prPair (bundF (l.take k)) l[k].1 := by
  unfold bundF; rw [List.take_succ_eq_append_getElem h, List.foldl_append]; rfl
end Go.Proofs.YtaeaccakkielmaaDoor

/- EntriesValid and FolderText, walked. -/
set_option linter.unusedVariables false
namespace Go.Proofs.YtaeaccakkielmaaDoor
open Go.RowKit
theorem entAt_eq {l : List En} {k : Nat} (hk : k < l.length) : entAt l k = ((wordV (bs l[k].1) && pv l[k].2) && (k == 0 || lessB (bs (l.getD (k - 1) en0).1) (bs l[k].1))) := by
  unfold entAt entOk; rw [getD_en hk]
theorem entAt_word {l : List En} {k : Nat} (hk : k < l.length) (h : wordV (bs l[k].1) = false) : entAt l k = false := by rw [entAt_eq hk, h]; rfl
theorem entAt_pv {l : List En} {k : Nat} (hk : k < l.length) (h : pv l[k].2 = false) : entAt l k = false := by rw [entAt_eq hk, h, Bool.and_false]; rfl
theorem entAt_asc {l : List En} {k : Nat} (hk : k < l.length) (h0 : k ≠ 0) (h : lessB (bs (l.getD (k - 1) en0).1) (bs l[k].1) = false) : entAt l k = false := by
  rw [entAt_eq hk, h, beq_eq_false_iff_ne.2 h0, Bool.or_false, Bool.and_false]
theorem entAt_ok {l : List En} {k : Nat} (hk : k < l.length) (h1 : wordV (bs l[k].1) = true) (h2 : pv l[k].2 = true) (h3 : k = 0 ∨ lessB (bs (l.getD (k - 1) en0).1) (bs l[k].1) = true) : entAt l k = true := by
  rw [entAt_eq hk, h1, h2]
  rcases h3 with h3 | h3
  · subst h3; rfl
  · rw [h3, Bool.or_true]; rfl
theorem FitE.at {l : List En} (h : FitE l) {k : Nat} (hk : k < l.length) : l[k].1.size ≤ 16777216 := h _ (by simp)
theorem prev_cellE {w : World} {b o : Nat} {l : List En} {k : Nat} (h : Sl w encE 2 (some ⟨b, o, none⟩) l) (hk : k < l.length) (h0 : k ≠ 0) : w.cell? ⟨b, o + (k - 1) * 2, none⟩ = some (.string (l.getD (k - 1) en0).1) := by
  obtain ⟨b', o', e, h', _⟩ := h.getE (k := k - 1) (by omega)
  injection e with e; injection e with e1 e2
  rw [e1, e2, getD_en (by omega)]; exact h'
theorem less_t {a b : ByteArray} {x : Bool} (h : lessB (bs a) (bs b) = x) : Op.bytesLess a.toList b.toList = x := by rw [less_tl]; exact h
set_option maxHeartbeats 8000000 in
set_option maxRecDepth 100000 in
theorem sEntriesValid_any (A : Option Addr) (c : Nat) (l : List En) (w : World) (hs : Sl w encE 2 A l) (hl : l.length ≤ 16777216) (hf : FitE l) :
    Calls Tryd.prog 85 #[.slice A l.length c] w fun e w' => e = .returned (.bool (entsV l)) ∧ Below w.heap.size w w' := by
  have HS := Lib.hid hs
  have HF := Lib.hid hf
  clear hs hf
  go_enter Tryd.func85, Tryd.ntmps85
  go_wp2
  go_loopw [3] (fun i wr => ∃ (k : Nat), k ≤ l.length ∧ i = .int .i64 k ∧ Hid (EntUpto l k) ∧ Hid (Below w.heap.size w wr)) (fun i _ => l.length - (intOf i).toNat)
  case atStart => exact ⟨0, Nat.zero_le _, rfl, EntUpto.zero l, Below.refl _ _⟩
  case round =>
    obtain ⟨k, hk, rfl, hh, HB⟩ := hrel
    by_cases hlt : k < l.length
    · have hsk := HS.out.below HB.out
      obtain ⟨b, o, rfl, hc0, hc1⟩ := hsk.getE hlt
      have hfk := HF.out.at hlt
      have hpv := @prev_cellE _ _ _ _ k hsk hlt
      have H1 := Lib.hid (fun h => entsV_bad hlt (entAt_word hlt h))
      have H2 := Lib.hid (fun h => entsV_bad hlt (entAt_pv hlt h))
      have H3 := Lib.hid (fun h0 h => entsV_bad hlt (entAt_asc hlt h0 h))
      have H4 := Lib.hid (fun h1 h2 h3 => hh.out.succ (entAt_ok hlt h1 h2 h3))
      have hx0 := far_cell hc0
      have hx1 := far_cell hc1
      clear hsk hc0 hc1
      generalize (l.getD (k - 1) en0).1 = z at *
      generalize l[k] = p at *
      obtain ⟨t, a⟩ := p
      simp only at *
      have hTV := fun w => sWordValid_any t w hfk
      have hPV : ∀ w, Calls Tryd.prog 26 #[.int .i64 a, .int .i64 0, .int .i64 16777212] w fun e w' => e = .returned (.bool (pv a)) ∧ w = w' := fun w => sl1In_any a 0 16777212 w
      cases h1 : wordV (bs t)
      · have HE := Lib.hid (H1.out h1)
        rw [h1] at hTV
        have HTV := Lib.hid hTV
        clear hTV hPV h1 H1 H2 H3 H4 hpv
        go_wp2
        refine wp_region_far (by kernel_rfl) (by kernel_rfl) ?_
        repeat (go_big_quiet_step ((go_at_call 63; exact far_same (HTV.out _))))
        refine wpQuiet_nil ?_
        intro _ hwF
        obtain ⟨pF, hwF⟩ := hwF
        subst hwF
        have HB5 := Lib.hid (Below_then HB.out (far_below _ pF) (Nat.le_refl _))
        generalize far _ pF = wF at *
        go_wp2
        go_ret
        exact ⟨ret_bool HE.out.symm, HB5.out⟩
      · rw [h1] at hTV
        have HTV := Lib.hid hTV
        clear hTV
        cases h2 : pv a
        · have HE := Lib.hid (H2.out h2)
          rw [h2] at hPV
          have HPV := Lib.hid hPV
          clear hPV h1 h2 H1 H2 H3 H4 hpv
          go_wp2
          refine wp_region_far (by kernel_rfl) (by kernel_rfl) ?_
          repeat (go_big_quiet_step ((first | (go_at_call 63; exact far_same (HTV.out _)) | (go_at_call 26; exact far_same (HPV.out _)))))
          refine wpQuiet_nil ?_
          intro _ hwF
          obtain ⟨pF, hwF⟩ := hwF
          subst hwF
          have HB5 := Lib.hid (Below_then HB.out (far_below _ pF) (Nat.le_refl _))
          generalize far _ pF = wF at *
          go_wp2
          go_ret
          exact ⟨ret_bool HE.out.symm, HB5.out⟩
        · rw [h2] at hPV
          have HPV := Lib.hid hPV
          clear hPV
          by_cases h0 : k = 0
          · have HN := Lib.hid (H4.out h1 h2 (.inl h0))
            clear h1 h2 H1 H2 H3 H4 hpv
            have hk0 : decide (0 < k) = false := decide_eq_false (by omega)
            clear h0
            go_wp2
            refine wp_region_far (by kernel_rfl) (by kernel_rfl) ?_
            repeat (go_big_quiet_step ((first | (go_at_call 63; exact far_same (HTV.out _)) | (go_at_call 26; exact far_same (HPV.out _)))))
            refine wpQuiet_nil ?_
            intro _ hwF
            obtain ⟨pF, hwF⟩ := hwF
            subst hwF
            have HB5 := Lib.hid (Below_then HB.out (far_below _ pF) (Nat.le_refl _))
            generalize far _ pF = wF at *
            go_wp2
            go_roundw
            case rel => exact ⟨k + 1, by omega, by go_num, HN.out, HB5.out⟩
            case measure => simp [intOf]; omega
          · have hp1 := far_cell (hpv h0)
            have hk1 : 0 < k := by omega
            have hk2 : IntKind.i64.wrap ((k : Int) - 1) = (k : Int) - 1 := IntWalk.i64_in _ (by omega)
            have hk3 : (0 : Int) ≤ (k : Int) - 1 := by omega
            have hk4 : (k : Int) - 1 < (l.length : Int) := by omega
            have hk5 : ((k : Int) - 1).toNat = k - 1 := by omega
            cases h3 : lessB (bs z) (bs t)
            · have HE := Lib.hid (H3.out h0 h3)
              cases h4 : lessB (bs t) (bs z)
              · have e4 := less_t h4
                have e5 : (t.toList == z.toList) = true := by rw [eq_tl]; exact beq_iff_eq.2 (lessB_tri h4 h3)
                clear h1 h2 h3 h4 H1 H2 H3 H4 hpv
                go_wp2
                refine wp_region_far (by kernel_rfl) (by kernel_rfl) ?_
                repeat (go_big_quiet_step ((first | (go_at_call 63; exact far_same (HTV.out _)) | (go_at_call 26; exact far_same (HPV.out _)))))
                refine wpQuiet_nil ?_
                intro _ hwF
                obtain ⟨pF, hwF⟩ := hwF
                subst hwF
                have HB5 := Lib.hid (Below_then HB.out (far_below _ pF) (Nat.le_refl _))
                clear hx0 hx1 hp1
                generalize far _ pF = wF at *
                go_wp2
                go_ret
                exact ⟨ret_bool HE.out.symm, HB5.out⟩
              · have e4 := less_t h4
                clear h1 h2 h3 h4 H1 H2 H3 H4 hpv
                go_wp2
                refine wp_region_far (by kernel_rfl) (by kernel_rfl) ?_
                repeat (go_big_quiet_step ((first | (go_at_call 63; exact far_same (HTV.out _)) | (go_at_call 26; exact far_same (HPV.out _)))))
                refine wpQuiet_nil ?_
                intro _ hwF
                obtain ⟨pF, hwF⟩ := hwF
                subst hwF
                have HB5 := Lib.hid (Below_then HB.out (far_below _ pF) (Nat.le_refl _))
                clear hx0 hx1 hp1
                generalize far _ pF = wF at *
                go_wp2
                go_ret
                exact ⟨ret_bool HE.out.symm, HB5.out⟩
            · have HN := Lib.hid (H4.out h1 h2 (.inr h3))
              have e4 := less_t (lessB_asymm h3)
              have e5 : (t.toList == z.toList) = false := by rw [eq_tl, beq_eq_false_iff_ne]; intro e; have h3' : lessB (tx z) (tx t) = true := h3; rw [e, lessB_irrefl] at h3'; cases h3'
              clear h1 h2 h3 H1 H2 H3 H4 hpv
              go_wp2
              refine wp_region_far (by kernel_rfl) (by kernel_rfl) ?_
              repeat (go_big_quiet_step ((first | (go_at_call 63; exact far_same (HTV.out _)) | (go_at_call 26; exact far_same (HPV.out _)))))
              refine wpQuiet_nil ?_
              intro _ hwF
              obtain ⟨pF, hwF⟩ := hwF
              subst hwF
              have HB5 := Lib.hid (Below_then HB.out (far_below _ pF) (Nat.le_refl _))
              clear hx0 hx1 hp1
              generalize far _ pF = wF at *
              go_wp2
              go_roundw
              case rel => exact ⟨k + 1, by omega, by go_num, HN.out, HB5.out⟩
              case measure => simp [intOf]; omega
    · have HD := Lib.hid (fun h40 => hh.out.done hlt h40)
      have HL := Lib.hid (@entsV_long l)
      by_cases h40 : l.length ≤ 3
      · have HE := Lib.hid (HD.out h40)
        go_wp2
        go_ret
        exact ⟨ret_bool (by rw [HE.out]; simp; omega), HB.out⟩
      · have HE := Lib.hid (HL.out h40)
        go_wp2
        go_ret
        exact ⟨ret_bool (by rw [HE.out]; simp; omega), HB.out⟩
end Go.Proofs.YtaeaccakkielmaaDoor

/- 'copy' of elements of more than one cell, as run equations; a row written whole. -/
set_option linter.unusedVariables false
namespace Go.Proofs.YtaeaccakkielmaaDoor
open Go.RowKit

theorem run_copy_rowK {P : Program} (w : World) (dT sT ty elem : TypeId) (g o dLen dCap : Nat) (a : Addr) (sLen sCap : Nat) (cur : Array Value) (t : TypeId) (cs : List Value) (k m : Nat)
    (hu : P.underlying dT = some (.slice elem)) (hs : (P.info? elem).map (·.size) = some k) (hm : Nat.min sLen dLen = m)
    (hg : w.heap[g]? = some (.cells cur t (0, 0))) (hn : cs.length = m * k)
    (hsrc : ∀ j v, cs[j]? = some v → w.cell? (a.add j) = some v) (hfit : o + cs.length ≤ cur.size) (h1 : ∀ v ∈ cs, v.oneCell' = true) :
    (Builtin.copy_ #[dT, sT] ty #[.slice (some ⟨g, o, none⟩) dLen dCap, .slice (some a) sLen sCap]).run P w =
      .ok (goInt m) (w.setRow g (cur.toList.take o ++ cs ++ cur.toList.drop (o + cs.length)).toArray) := by
  have hl := run_loadCells_list (P := P) w a cs hsrc
  have hst := run_storeCells_at P g o t cs 0 cur w hg (by simpa using hfit) h1
  rw [hn] at hl
  cases hq : P.info? elem with
  | none => simp [hq] at hs
  | some i =>
    have hi : i.size = k := by simpa [hq] using hs
    simp [Builtin.copy_, run_underlying hu, Builtin.lenOf, Builtin.firstCells, sizeOf, typeInfo, hq, hi, hm, hl, hst]
end Go.Proofs.YtaeaccakkielmaaDoor

/- slices.Insert of one piece into a row of the call's own, walked. -/
set_option linter.unusedVariables false
namespace Go.Proofs.YtaeaccakkielmaaDoor
open Go.RowKit

def InsRes (base : Nat) (l : List Pc) (w : World) (e : Ending) (w' : World) : Prop := ∃ v', e = .returned v' ∧ Own w' base 58 2 encP v' l ∧ Below base w w'
theorem ins_end (l : List Pc) (x : Pc) : l ++ [x] = l.take l.length ++ x :: l.drop l.length := by simp
theorem flat_take {α : Type} {enc : α → List Value} {k : Nat} (he : ∀ x, (enc x).length = k) (l : List α) (i : Nat) (hi : i ≤ l.length) : flat enc (l.take i) = (flat enc l).take (i * k) ∧ flat enc (l.drop i) = (flat enc l).drop (i * k) := by
  have e : flat enc l = flat enc (l.take i) ++ flat enc (l.drop i) := by rw [← flat_append, List.take_append_drop]
  have hlen : (flat enc (l.take i)).length = i * k := by rw [flat_length he, List.length_take]; congr 1; omega
  rw [e]
  exact ⟨(List.take_left' hlen).symm, (List.drop_left' hlen).symm⟩
/-- A row into which two cells were laid: first what stands behind moves, then the cells come in. -/
theorem ins_row {α : Type} {L C X S N1 N2 : List α} {a b : Nat} (hC : L.take b = C) (hb : b + 2 ≤ L.length) (hab : a ≤ b) (hX : X.length = 2) (hS : S = C.drop a)
    (h1 : N1 = L.take (a + 2) ++ S ++ L.drop (a + 2 + S.length)) (h2 : N2 = N1.take a ++ X ++ N1.drop (a + X.length)) :
    N1.length = L.length ∧ N2.length = L.length ∧ N2.take (b + 2) = C.take a ++ X ++ C.drop a := by
  have hCl : C.length = b := by rw [← hC, List.length_take]; omega
  have hSl : S.length = b - a := by rw [hS, List.length_drop, hCl]
  have hL2 : (L.take (a + 2)).length = a + 2 := by rw [List.length_take]; omega
  have e1 : N1.take a = C.take a := by
    rw [h1, List.append_assoc, List.take_append_of_le_length (by omega), List.take_take, ← hC, List.take_take]
    congr 1; omega
  have e2 : N1.drop (a + 2) = S ++ L.drop (a + 2 + S.length) := by
    rw [h1, List.append_assoc]; exact List.drop_left' hL2
  have l1 : N1.length = L.length := by rw [h1]; simp; omega
  have eN : N2 = (C.take a ++ X ++ C.drop a) ++ L.drop (a + 2 + S.length) := by
    rw [h2, hX, e1, e2, ← hS]; simp
  have hl : (C.take a ++ X ++ C.drop a).length = b + 2 := by simp [hX, hCl]; omega
  refine ⟨l1, ?_, ?_⟩
  · rw [eN, List.length_append, hl]; simp; omega
  · rw [eN]; exact List.take_left' hl
theorem one_sl {w : World} {vb : Nat} {x : Pc} (hv : w.heap[vb]? = some (.cells #[.int .i64 x.1, .string x.2] 58 (0, 0))) : Sl w encP 2 (some ⟨vb, 0, none⟩) [x] := by
  intro _
  refine ⟨vb, 0, rfl, fun j u hu => ?_⟩
  rw [cell_of_row _ _ _ _ _ (0, 0) hv]
  simpa [flat, encP] using hu
set_option maxHeartbeats 4000000 in
set_option maxRecDepth 100000 in
theorem Insert_end (base : Nat) (v : Value) (l : List Pc) (x : Pc) (w : World) (vb : Nat) (hbase : base ≤ w.heap.size) (hown : Own w base 58 2 encP v l)
    (hv : w.heap[vb]? = some (.cells #[.int .i64 x.1, .string x.2] 58 (0, 0))) (hl : l.length ≤ 16777216) :
    Calls Tryd.prog 62 #[v, .int .i64 l.length, .slice (some ⟨vb, 0, none⟩) 1 1] w (InsRes base (l ++ [x]) w) := by
  obtain ⟨i0, hi0, hz0, hz1, hz2⟩ := info_parts pc_info
  have hsx := one_sl hv
  have HBR := Lib.hid (Below.refl base w)
  have hcz := hown
  obtain ⟨A, c, rfl, hle, hs, hA⟩ := hown.sl
  have HO := Lib.hid hcz
  have HCZ := Lib.hid hcz.cz
  have HSX := Lib.hid hsx
  clear hcz hsx hown hs hv
  have hcm : c ≤ 9223372036854775807 := by
    rcases HO.out.2 with ⟨hv, hn⟩ | ⟨g, cap, cur, hv, hg, hh, hnc, hcm, hsz, ht⟩
    · injection hv with _ _ e; omega
    · injection hv with _ _ e; unfold maxLen at hcm; omega
  unfold InsRes
  rcases hA with ⟨hl0, rfl⟩ | ⟨g, rfl, hg, hgw⟩
  · subst hl0
    obtain rfl := HCZ.out rfl
    go_enter Tryd.func62, Tryd.ntmps62
    go_wp2_with (at_builtin; refine wpList_appN (w0 := w) (B := base) (base := base) (m := [x]) Tryd.underlying35 hi0 hz0 hz1 hz2 rfl (by decide) (by decide) rfl _ _ rfl HO.out HBR.out (Nat.le_refl _) hbase (by simp) HSX.out (by intro h; cases h) (fun _ => rfl) oneP rfl rfl ?_; intro v' w' hown' hb' _; have HO2 := Lib.hid hown'; have HB2 := Lib.hid hb'; clear hown' hb')
    go_ret
    exact ⟨_, rfl, HO2.out, HB2.out⟩
  · go_enter Tryd.func62, Tryd.ntmps62
    go_wp2_with (at_builtin; refine wpList_appN (w0 := w) (B := base) (base := base) (m := [x]) Tryd.underlying35 hi0 hz0 hz1 hz2 rfl (by decide) (by decide) rfl _ _ rfl HO.out HBR.out (Nat.le_refl _) hbase (by simp; omega) HSX.out (by intro h; cases h) (fun _ => rfl) oneP rfl rfl ?_; intro v' w' hown' hb' _; have HO2 := Lib.hid hown'; have HB2 := Lib.hid hb'; clear hown' hb')
    all_goals
      go_ret
      exact ⟨_, rfl, HO2.out, HB2.out⟩
set_option maxHeartbeats 4000000 in
set_option maxRecDepth 100000 in
theorem Insert_room (base : Nat) (l : List Pc) (x : Pc) (i : Nat) (w : World) (vb g cap : Nat) (cur : Array Value) (hbase : base ≤ w.heap.size)
    (hg : base ≤ g) (hh : w.heap[g]? = some (.cells cur 58 (0, 0))) (hcm : cap ≤ maxLen) (hsz : cur.size = cap * 2) (ht : cur.toList.take (l.length * 2) = flat encP l) (hroom : l.length + 1 ≤ cap)
    (hv : w.heap[vb]? = some (.cells #[.int .i64 x.1, .string x.2] 58 (0, 0))) (hne : vb ≠ g) (hi : i < l.length) (hl : l.length ≤ 16777216) :
    Calls Tryd.prog 62 #[.slice (some ⟨g, 0, none⟩) l.length cap, .int .i64 i, .slice (some ⟨vb, 0, none⟩) 1 1] w (InsRes base (l.take i ++ x :: l.drop i) w) := by
  obtain ⟨i0, hi0, hz0, hz1, hz2⟩ := info_parts pc_info
  have hsz' : ∀ w, (Go.sizeOf 58).run Tryd.prog w = .ok 2 w := fun w => by simp [sizeOf, typeInfo, hi0, hz1]
  have hsa : w.shape? vb = some (58, 2) := by simp [World.shape?, hv]
  have hsb : w.shape? g = some (58, cur.size) := by simp [World.shape?, hh]
  have hfa : w.frozen? ⟨vb, 0, none⟩ = false := by simp [World.frozen?, hv]
  have hfe : w.frozen? ⟨vb, 2, none⟩ = false := by simp [World.frozen?, hv]
  have hov : ∀ o lb cb, (callFunc 76 #[.slice (some ⟨vb, 0, none⟩) 1 1, .slice (some ⟨g, o, none⟩) lb cb]).run Tryd.prog w = .ok (.value (.bool false)) w := fun o lb cb => by
    rw [run_callFunc_extern Tryd.func76 (by kernel_rfl) (by kernel_rfl) (by kernel_rfl) (e := Extern.SlicesOverlaps.overlaps #[35, 35] #[4]) (by kernel_rfl),
      Lib.run_overlaps_apart w 35 4 58 Tryd.underlying35 2 hsz' ⟨vb, 0, none⟩ ⟨g, o, none⟩ 1 1 lb cb hne 58 58 2 cur.size hsa hsb (by omega) hfa hfe]
    rfl
  obtain ⟨C, hC⟩ : ∃ C, C = flat encP l := ⟨_, rfl⟩
  have hCl : C.length = l.length * 2 := by rw [hC]; exact flat_length (enc := encP) (size := 2) (fun _ => rfl) l
  have hflat := flat_take (enc := encP) (k := 2) (fun _ => rfl) l i (by omega)
  rw [← hC] at ht hflat
  have hLl : cur.toList.length = cap * 2 := by rw [Array.length_toList]; exact hsz
  obtain ⟨S, hS⟩ : ∃ S, S = C.drop (i * 2) := ⟨_, rfl⟩
  have hSl : S.length = (l.length - i) * 2 := by rw [hS, List.length_drop, hCl]; omega
  obtain ⟨N1, hN1⟩ : ∃ N, N = cur.toList.take (i * 2 + 2) ++ S ++ cur.toList.drop (i * 2 + 2 + S.length) := ⟨_, rfl⟩
  obtain ⟨N2, hN2⟩ : ∃ N, N = N1.take (i * 2) ++ encP x ++ N1.drop (i * 2 + (encP x).length) := ⟨_, rfl⟩
  obtain ⟨l1, l2, tk⟩ := ins_row (a := i * 2) (b := l.length * 2) ht (by omega) (by omega) (X := encP x) rfl hS hN1 hN2
  have hz3 : (Tryd.prog.info? 58).map (·.size) = some 2 := by rw [hi0]; simp [hz1]
  have hcell : ∀ j u, C[j]? = some u → w.cell? ⟨g, j, none⟩ = some u := fun j u hu => by
    rw [cell_of_row _ _ _ _ _ (0, 0) hh, ← Array.getElem?_toList]
    rw [← ht, List.getElem?_take] at hu
    split at hu
    · exact hu
    · cases hu
  have hcp1 : ∀ ty dl sl dc sc, dl = l.length - i → sl = l.length + 1 - i → (Builtin.copy_ #[35, 35] ty #[.slice (some ⟨g, (i + 1) * 2, none⟩) dl dc, .slice (some ⟨g, i * 2, none⟩) sl sc]).run Tryd.prog w.drew = .ok (goInt ((l.length - i : Nat) : Int)) (w.drew.setRow g N1.toArray) := fun ty dl sl dc sc e1 e2 => by
    subst e1 e2
    have := run_copy_rowK (P := Tryd.prog) w.drew 35 35 ty 58 g ((i + 1) * 2) (l.length - i) dc ⟨g, i * 2, none⟩ (l.length + 1 - i) sc cur 58 S 2 (l.length - i) Tryd.underlying35 hz3 (by simp only [Nat.min_def]; split <;> omega) hh hSl
      (fun j u hu => by
        rw [Addr.add_lit]
        rw [hS, List.getElem?_drop] at hu
        exact hcell _ u hu)
      (by omega) (fun u hu => by
        rw [hS, hC] at hu
        unfold flat at hu
        obtain ⟨y, _, hy⟩ := List.mem_flatMap.1 (List.mem_of_mem_drop hu)
        exact oneP y u hy)
    rw [hN1, show i * 2 + 2 = (i + 1) * 2 by omega]
    exact this
  have hcp2 : ∀ ty dl dc, 0 < dl → (Builtin.copy_ #[35, 35] ty #[.slice (some ⟨g, i * 2, none⟩) dl dc, .slice (some ⟨vb, 0, none⟩) 1 1]).run Tryd.prog (w.drew.setRow g N1.toArray) = .ok (goInt 1) ((w.drew.setRow g N1.toArray).setRow g N2.toArray) := fun ty dl dc e1 => by
    have := run_copy_rowK (P := Tryd.prog) (w.drew.setRow g N1.toArray) 35 35 ty 58 g (i * 2) dl dc ⟨vb, 0, none⟩ 1 1 N1.toArray 58 (encP x) 2 1 Tryd.underlying35 hz3 (by simp only [Nat.min_def]; split <;> omega) (setRow_heap w.drew g _ _ _ _ hh) rfl
      (fun j u hu => by
        rw [Addr.add_lit, cell_of_row _ _ _ _ _ (0, 0) ((setRow_other w.drew g vb _ hne).trans hv)]
        simpa [encP] using hu)
      (by simp [encP, l1]; omega) (fun u hu => oneP x u hu)
    rw [hN2]
    exact this
  have hfin : Own ((w.drew.setRow g N1.toArray).setRow g N2.toArray) base 58 2 encP (.slice (some ⟨g, 0, none⟩) (l.length + 1) cap) (l.take i ++ x :: l.drop i) := by
    have hll : (l.take i ++ x :: l.drop i).length = l.length + 1 := by simp; omega
    refine ⟨flat_length (enc := encP) (size := 2) (fun _ => rfl) _, .inr ⟨g, cap, N2.toArray, by rw [hll], hg, setRow_heap _ g _ _ _ _ (setRow_heap w.drew g _ _ _ _ hh), by rw [hll]; exact hroom, hcm, by simp [l2, hLl], ?_⟩⟩
    have e : flat encP (l.take i ++ x :: l.drop i) = flat encP (l.take i) ++ (encP x ++ flat encP (l.drop i)) := by rw [flat_append]; rfl
    rw [e, hflat.1, hflat.2, hll, show (l.length + 1) * 2 = l.length * 2 + 2 by omega]
    show N2.take _ = _
    rw [tk, List.append_assoc]
  have mixed : Tryd.prog.follows .mixedOrders = true := by kernel_rfl
  have HFIN := Lib.hid hfin
  have HBEL := Lib.hid (below_setRow (below_setRow ((Below.refl base w).drew) hg N1.toArray) hg N2.toArray)
  have HC1 := Lib.hid (fun ty => hcp1 ty _ _ (cap - (i + 1)) (cap - i) rfl rfl)
  have HC2 := Lib.hid (fun ty => hcp2 ty (l.length + 1 - i) (cap - i) (by omega))
  clear hfin hcp1 hcp2 hcell tk l2 hN2 l1 hN1 hSl hS hLl hflat hCl hC hsz' hz3
  unfold maxLen at hcm
  unfold InsRes
  clear hh hv ht hsa hsb hfa hfe
  have hz2' : ¬ ((i : Int) = (l.length : Int)) := by omega
  have hin : i ≤ l.length := by omega
  have hb2 : ¬ (cap = i + 1) := by omega
  have hb4 : ¬ (cap = i) := by omega
  have hw1 : IntKind.i64.wrap ((i : Int) + 1) = (i : Int) + 1 := by rw [IntKind.wrap_i64]; omega
  have htn : ((i : Int) + 1).toNat = i + 1 := by omega
  have hb1 : (0 : Int) ≤ (i : Int) + 1 := by omega
  have hb3 : (i : Int) ≤ (l.length : Int) + 1 := by omega
  go_enter Tryd.func62, Tryd.ntmps62
  go_wp2_with (simp only [hov])
  go_region_law_o (refine step_copy_runI rfl _ _ 35 35 rfl (.slice (some ⟨g, (i + 1) * 2, none⟩) (l.length - i) (cap - (i + 1))) (.slice (some ⟨g, i * 2, none⟩) (l.length + 1 - i) (cap - i)) (by simp [Act.eval, Act.put]) (by simp [Act.eval, Act.put]) (HC1.out _) ?_)
  have hc2 := HC2.out
  go_wp2
  go_ret
  exact ⟨_, rfl, HFIN.out, HBEL.out⟩
theorem grow_row {α : Type} {R P X S N1 N2 : List α} {a : Nat} (hP : R.take a = P) (hPl : P.length = a) (hX : X.length = 2) (hb : a + 2 + S.length ≤ R.length)
    (h1 : N1 = R.take a ++ X ++ R.drop (a + X.length)) (h2 : N2 = N1.take (a + 2) ++ S ++ N1.drop (a + 2 + S.length)) :
    N1.length = R.length ∧ N2.length = R.length ∧ N2.take (a + 2 + S.length) = P ++ X ++ S := by
  rw [hX, hP] at h1
  have l1 : N1.length = R.length := by rw [h1]; simp [hPl, hX]; omega
  have e1 : N1.take (a + 2) = P ++ X := by rw [h1]; exact List.take_left' (by simp [hPl, hX])
  have hl : (P ++ X ++ S).length = a + 2 + S.length := by simp [hPl, hX]; omega
  refine ⟨l1, ?_, ?_⟩
  · rw [h2, e1, List.length_append, hl, List.length_drop, l1]; omega
  · rw [h2, e1]; exact List.take_left' hl
set_option maxHeartbeats 4000000 in
set_option maxRecDepth 100000 in
theorem Insert_grow (base : Nat) (l : List Pc) (x : Pc) (i : Nat) (w : World) (vb g cap : Nat) (cur : Array Value) (hbase : base ≤ w.heap.size)
    (hg : base ≤ g) (hh : w.heap[g]? = some (.cells cur 58 (0, 0))) (hle : l.length ≤ cap) (ht : cur.toList.take (l.length * 2) = flat encP l) (hroom : cap < l.length + 1)
    (hv : w.heap[vb]? = some (.cells #[.int .i64 x.1, .string x.2] 58 (0, 0))) (hi : i < l.length) (hl : l.length ≤ 16777216) :
    Calls Tryd.prog 62 #[.slice (some ⟨g, 0, none⟩) l.length cap, .int .i64 i, .slice (some ⟨vb, 0, none⟩) 1 1] w (InsRes base (l.take i ++ x :: l.drop i) w) := by
  obtain ⟨i0, hi0, hz0, hz1, hz2⟩ := info_parts pc_info
  have hgw : g < w.heap.size := (Array.getElem?_eq_some_iff.1 hh).1
  have hvw : vb < w.heap.size := (Array.getElem?_eq_some_iff.1 hv).1
  obtain ⟨C, hC⟩ : ∃ C, C = flat encP l := ⟨_, rfl⟩
  have hCl : C.length = l.length * 2 := by rw [hC]; exact flat_length (enc := encP) (size := 2) (fun _ => rfl) l
  have hflat := flat_take (enc := encP) (k := 2) (fun _ => rfl) l i (by omega)
  rw [← hC] at ht hflat
  obtain ⟨S, hS⟩ : ∃ S, S = C.drop (i * 2) := ⟨_, rfl⟩
  have hSl : S.length = (l.length - i) * 2 := by rw [hS, List.length_drop, hCl]; omega
  have hPl : (C.take (i * 2)).length = i * 2 := by rw [List.length_take, hCl]; omega
  have hz3 : (Tryd.prog.info? 58).map (·.size) = some 2 := by rw [hi0]; simp [hz1]
  have hcell : ∀ j u, C[j]? = some u → w.cell? ⟨g, j, none⟩ = some u := fun j u hu => by
    rw [cell_of_row _ _ _ _ _ (0, 0) hh, ← Array.getElem?_toList]
    rw [← ht, List.getElem?_take] at hu
    split at hu
    · exact hu
    · cases hu
  have hold : (Builtin.firstCells i0.size i (.slice (some ⟨g, 0, none⟩) i cap)).run Tryd.prog w.drew = .ok (C.take (i * 2)).toArray w.drew := by
    rw [hz1]
    exact run_firstCells_some w.drew 2 i ⟨g, 0, none⟩ i cap (C.take (i * 2)) hPl (fun j u hu => by
      rw [Addr.add_lit, Nat.zero_add]
      rw [List.getElem?_take] at hu
      split at hu
      · exact hcell j u hu
      · cases hu)
  have hik : i + (l.length + 1 - i) = l.length + 1 := by omega
  have hkk : (l.length : Int) + 1 - (i : Int) = ((l.length + 1 - i : Nat) : Int) := by omega
  obtain ⟨G, hG⟩ : ∃ G, G = grownCap w (l.length + 1) cap 58 := ⟨_, rfl⟩
  have hGn : l.length + 1 ≤ G := by rw [hG]; exact grownCap_ge w _ _ _
  have hG63 : G ≤ maxLen := by rw [hG]; exact grownCap_le_maxLen w (l.length + 1) cap 58 (by unfold maxLen; omega)
  obtain ⟨R, hR⟩ : ∃ R : Array Value, R = (C.take (i * 2)).toArray ++ Builtin.zeroCells (Value.agg #[.int .i64 0, .string ⟨#[]⟩]).cells (l.length + 1 - i) ++ Builtin.zeroCells (Value.agg #[.int .i64 0, .string ⟨#[]⟩]).cells (G - (l.length + 1)) := ⟨_, rfl⟩
  have hRl : R.size = G * 2 := by
    rw [hR]
    simp only [Array.size_append, List.size_toArray, hPl]
    have hz : ∀ k, (Builtin.zeroCells (Value.agg #[.int .i64 0, .string ⟨#[]⟩]).cells k).size = k * 2 := fun k => by simp [Builtin.zeroCells, Value.cells]
    rw [hz, hz]; omega
  have hRll : R.toList.length = G * 2 := by rw [Array.length_toList]; exact hRl
  have hRt : R.toList.take (i * 2) = C.take (i * 2) := by
    rw [hR]; simp only [Array.toList_append, List.append_assoc]
    exact List.take_left' hPl
  have hrz : ∀ ty, (Builtin.append_ #[35, 3] ty #[.slice (some ⟨g, 0, none⟩) i cap, .int .i64 ((l.length : Int) + 1 - (i : Int))]).run Tryd.prog w =
      .ok (.slice (some ⟨w.heap.size, 0, none⟩) (l.length + 1) G) (w.alloc (.cells R 58)).drew := fun ty => by
    have h := Lib.run_append_grow_zeros (P := Tryd.prog) w 35 3 ty 58 i0 _ .i64 .i64 Tryd.underlying35 Tryd.underlying3 hi0 hz0 (some ⟨g, 0, none⟩) i cap (C.take (i * 2)) hold (l.length + 1 - i) (by omega) (by omega) (by omega) (by omega) (by rw [hz2]; omega) (by rw [hz2, hik]; exact growslice_fits hroom (by omega))
    rw [hik, ← hG, ← hR] at h
    rw [hkk]
    exact h
  obtain ⟨N1, hN1⟩ : ∃ N, N = R.toList.take (i * 2) ++ encP x ++ R.toList.drop (i * 2 + (encP x).length) := ⟨_, rfl⟩
  obtain ⟨N2, hN2⟩ : ∃ N, N = N1.take (i * 2 + 2) ++ S ++ N1.drop (i * 2 + 2 + S.length) := ⟨_, rfl⟩
  obtain ⟨l1, l2, tk⟩ := grow_row (a := i * 2) (X := encP x) hRt hPl rfl (by rw [hRll, hSl]; omega) hN1 hN2
  rw [hRll] at l1 l2
  have hrow0 : (w.alloc (.cells R 58)).drew.heap[w.heap.size]? = some (.cells R 58 (0, 0)) := heap_alloc_new w _
  have hold0 : ∀ k, k < w.heap.size → (w.alloc (.cells R 58)).drew.heap[k]? = w.heap[k]? := fun k hk => by
    show (w.heap.push _)[k]? = _
    rw [Array.getElem?_push, if_neg (by omega)]
  have hcpA : ∀ ty, (Builtin.copy_ #[35, 35] ty #[.slice (some ⟨w.heap.size, i * 2, none⟩) (l.length + 1 - i) (G - i), .slice (some ⟨vb, 0, none⟩) 1 1]).run Tryd.prog (w.alloc (.cells R 58)).drew = .ok (goInt 1) ((w.alloc (.cells R 58)).drew.setRow w.heap.size N1.toArray) := fun ty => by
    have := run_copy_rowK (P := Tryd.prog) (w.alloc (.cells R 58)).drew 35 35 ty 58 w.heap.size (i * 2) (l.length + 1 - i) (G - i) ⟨vb, 0, none⟩ 1 1 R 58 (encP x) 2 1 Tryd.underlying35 hz3 (by simp only [Nat.min_def]; split <;> omega) hrow0 rfl
      (fun j u hu => by
        rw [Addr.add_lit, cell_of_row _ _ _ _ _ (0, 0) ((hold0 vb hvw).trans hv)]
        simpa [encP] using hu)
      (by rw [hRl]; simp [encP]; omega) (fun u hu => oneP x u hu)
    rw [hN1]
    exact this
  have hrow1 : ((w.alloc (.cells R 58)).drew.setRow w.heap.size N1.toArray).drew.heap[w.heap.size]? = some (.cells N1.toArray 58 (0, 0)) := setRow_heap _ _ _ _ _ _ hrow0
  have hcpB : ∀ ty, (Builtin.copy_ #[35, 35] ty #[.slice (some ⟨w.heap.size, (i + 1) * 2, none⟩) (l.length - i) (G - (i + 1)), .slice (some ⟨g, i * 2, none⟩) (l.length - i) (cap - i)]).run Tryd.prog ((w.alloc (.cells R 58)).drew.setRow w.heap.size N1.toArray).drew = .ok (goInt ((l.length - i : Nat) : Int)) (((w.alloc (.cells R 58)).drew.setRow w.heap.size N1.toArray).drew.setRow w.heap.size N2.toArray) := fun ty => by
    have := run_copy_rowK (P := Tryd.prog) ((w.alloc (.cells R 58)).drew.setRow w.heap.size N1.toArray).drew 35 35 ty 58 w.heap.size ((i + 1) * 2) (l.length - i) (G - (i + 1)) ⟨g, i * 2, none⟩ (l.length - i) (cap - i) N1.toArray 58 S 2 (l.length - i) Tryd.underlying35 hz3 (by simp) hrow1 hSl
      (fun j u hu => by
        rw [Addr.add_lit, cell_of_row _ _ _ _ _ (0, 0) (show ((w.alloc (.cells R 58)).drew.setRow w.heap.size N1.toArray).drew.heap[g]? = some (.cells cur 58 (0, 0)) from (setRow_other (w.alloc (.cells R 58)).drew w.heap.size g _ (by omega)).trans ((hold0 g hgw).trans hh)), ← Array.getElem?_toList]
        rw [hS, List.getElem?_drop, ← ht, List.getElem?_take] at hu
        split at hu
        · exact hu
        · cases hu)
      (by simp [l1]; omega) (fun u hu => by
        rw [hS, hC] at hu
        unfold flat at hu
        obtain ⟨y, _, hy⟩ := List.mem_flatMap.1 (List.mem_of_mem_drop hu)
        exact oneP y u hy)
    rw [hN2, show i * 2 + 2 = (i + 1) * 2 by omega]
    exact this
  have hfin : Own (((w.alloc (.cells R 58)).drew.setRow w.heap.size N1.toArray).drew.setRow w.heap.size N2.toArray) base 58 2 encP (.slice (some ⟨w.heap.size, 0, none⟩) (l.length + 1) G) (l.take i ++ x :: l.drop i) := by
    have hll : (l.take i ++ x :: l.drop i).length = l.length + 1 := by simp; omega
    refine ⟨flat_length (enc := encP) (size := 2) (fun _ => rfl) _, .inr ⟨w.heap.size, G, N2.toArray, by rw [hll], hbase, setRow_heap _ _ _ _ _ _ hrow1, by rw [hll]; exact hGn, hG63, by simp [l2], ?_⟩⟩
    have e : flat encP (l.take i ++ x :: l.drop i) = flat encP (l.take i) ++ (encP x ++ flat encP (l.drop i)) := by rw [flat_append]; rfl
    rw [e, hflat.1, hflat.2, hll, show (l.length + 1) * 2 = i * 2 + 2 + S.length by rw [hSl]; omega]
    show N2.take _ = _
    rw [tk, List.append_assoc, hS]
  have hbel : Below base w (((w.alloc (.cells R 58)).drew.setRow w.heap.size N1.toArray).drew.setRow w.heap.size N2.toArray) :=
    below_setRow (below_setRow (((Below.refl base w).alloc hbase _).drew) hbase N1.toArray).drew hbase N2.toArray
  have mixed : Tryd.prog.follows .mixedOrders = true := by kernel_rfl
  have HFIN := Lib.hid hfin
  have HBEL := Lib.hid hbel
  have HCA := Lib.hid hcpA
  have HCB := Lib.hid hcpB
  have HRZ := Lib.hid hrz
  unfold maxLen at hG63
  unfold InsRes
  clear hfin hbel hcpA hcpB hrz hcell tk l2 hN2 l1 hN1 hSl hS hflat hCl hC hz3 hold hrow0 hold0 hrow1 hR hRl hRll hRt hh hv ht hkk hik hPl hG
  have hz2' : ¬ ((i : Int) = (l.length : Int)) := by omega
  have hz4 : (cap : Int) < (l.length : Int) + 1 := by omega
  have hin : i ≤ l.length := by omega
  have hb2 : ¬ (G = i + 1) := by omega
  have hb4 : ¬ (G = i) := by omega
  have hb5 : ¬ (cap = i) := by omega
  have hw1 : IntKind.i64.wrap ((i : Int) + 1) = (i : Int) + 1 := by rw [IntKind.wrap_i64]; omega
  have hw2 : IntKind.i64.wrap ((l.length : Int) + 1 - (i : Int)) = (l.length : Int) + 1 - (i : Int) := by rw [IntKind.wrap_i64]; omega
  have htn : ((i : Int) + 1).toNat = i + 1 := by omega
  have hb1 : (0 : Int) ≤ (i : Int) + 1 := by omega
  have hca := HCA.out
  go_enter Tryd.func62, Tryd.ntmps62
  go_wp2_with (at_builtin; refine Lib.wpList_append_run _ rfl _ _ _ _ rfl _ _ rfl rfl _ _ (HRZ.out _) ?_)
  go_region_law_o (refine step_copy_runI rfl _ _ 35 35 rfl (.slice (some ⟨w.heap.size, (i + 1) * 2, none⟩) (l.length - i) (G - (i + 1))) (.slice (some ⟨g, i * 2, none⟩) (l.length - i) (cap - i)) (by simp [Act.eval, Act.put]) (by simp [Act.eval, Act.put]) (HCB.out _) ?_)
  go_wp2
  go_ret
  exact ⟨_, rfl, HFIN.out, HBEL.out⟩
end Go.Proofs.YtaeaccakkielmaaDoor

/- Where a print stands: cmp.Compare, slices.BinarySearchFunc, findPiece, walked. -/
set_option linter.unusedVariables false
namespace Go.Proofs.YtaeaccakkielmaaDoor
open Go.RowKit

def cmp3 (a b : Int) : Int := if a < b then -1 else if b < a then 1 else 0
set_option maxHeartbeats 2000000 in
set_option maxRecDepth 100000 in
theorem isNaN_any (a : Int) (w : World) : Calls Tryd.prog 100 #[.int .i64 a] w fun e w' => e = .returned (.bool false) ∧ w = w' := by
  go_enter Tryd.func100, Tryd.ntmps100
  go_wp2
  go_ret
  exact ⟨ret_bool (by simp), rfl⟩
set_option maxHeartbeats 2000000 in
set_option maxRecDepth 100000 in
theorem Compare_any (a b : Int) (w : World) : Calls Tryd.prog 75 #[.int .i64 a, .int .i64 b] w fun e w' => e = .returned (.int .i64 (cmp3 a b)) ∧ w = w' := by
  by_cases h1 : a < b
  · have E : Hid (cmp3 a b = -1) := by show _ = _; unfold cmp3; rw [if_pos h1]
    go_enter Tryd.func75, Tryd.ntmps75
    go_wp2_with (go_at_call 100; refine (isNaN_any _ _).mono ?_; rintro e w' ⟨rfl, rfl⟩)
    go_ret
    exact ⟨ret_int E.out.symm, rfl⟩
  · by_cases h2 : b < a
    · have E : Hid (cmp3 a b = 1) := by show _ = _; unfold cmp3; rw [if_neg h1, if_pos h2]
      go_enter Tryd.func75, Tryd.ntmps75
      go_wp2_with (go_at_call 100; refine (isNaN_any _ _).mono ?_; rintro e w' ⟨rfl, rfl⟩)
      go_ret
      exact ⟨ret_int E.out.symm, rfl⟩
    · have E : Hid (cmp3 a b = 0) := by show _ = _; unfold cmp3; rw [if_neg h1, if_neg h2]
      go_enter Tryd.func75, Tryd.ntmps75
      go_wp2_with (go_at_call 100; refine (isNaN_any _ _).mono ?_; rintro e w' ⟨rfl, rfl⟩)
      go_ret
      exact ⟨ret_int E.out.symm, rfl⟩
set_option maxHeartbeats 2000000 in
set_option maxRecDepth 100000 in
theorem fpCmp_any (a x : Int) (t : ByteArray) (w : World) : Calls Tryd.prog 74 #[.agg #[.int .i64 a, .string t], .int .i64 x] w fun e w' => e = .returned (.int .i64 (cmp3 a x)) ∧ Below w.heap.size w w' := by
  have HB := Lib.hid ((Below.refl w.heap.size w).alloc (Nat.le_refl _) (.cells #[.int .i64 a, .string t] 58))
  generalize hc : cmp3 a x = c at *
  have HC := Lib.hid (fun w => hc ▸ Compare_any a x w)
  clear hc
  go_enter Tryd.func74, Tryd.ntmps74
  go_wp2_with (go_at_call 75; refine (HC.out _).mono ?_; rintro e w' ⟨rfl, rfl⟩)
  go_ret
  exact ⟨rfl, HB.out⟩
def FpRes (l : List Pc) (x : Int) (w : World) (e : Ending) (w' : World) : Prop := e = .returned (.tuple #[.int .i64 (below l x : Nat), .bool (hereP l x)]) ∧ Below w.heap.size w w'
theorem ret_two {a b : Int} {c d : Bool} (h1 : a = b) (h2 : c = d) : Ending.returned (.tuple #[.int .i64 a, .bool c]) = .returned (.tuple #[.int .i64 b, .bool d]) := by rw [h1, h2]
set_option maxHeartbeats 4000000 in
set_option maxRecDepth 100000 in
theorem BSearch_any (A : Option Addr) (c : Nat) (l : List Pc) (x : Int) (w : World) (hs : Sl w encP 2 A l) (hl : l.length ≤ 16777216) (hso : Sorted l) :
    Calls Tryd.prog 73 #[.slice A l.length c, .int .i64 x, .func (.func 74) #[] #[]] w (FpRes l x w) := by
  have HS := Lib.hid hs
  have HSO := Lib.hid hso
  clear hs hso
  go_enter Tryd.func73, Tryd.ntmps73
  go_wp2_with fail
  go_loopw [9, 10] (fun vi vj wr => ∃ lo hi : Nat, vi = .int .i64 lo ∧ vj = .int .i64 hi ∧ lo ≤ hi ∧ hi ≤ l.length ∧ Hid (∀ t (h : t < l.length), t < lo → l[t].1 < x) ∧ Hid (∀ t (h : t < l.length), hi ≤ t → x ≤ l[t].1) ∧ Hid (Below w.heap.size w wr)) (fun vi vj _ => (intOf vj).toNat - (intOf vi).toNat)
  case atStart => exact ⟨0, l.length, rfl, rfl, Nat.zero_le _, Nat.le_refl _, (fun t h h2 => by omega), (fun t h h2 => by omega), Below.refl _ _⟩
  case round =>
    obtain ⟨lo, hi, rfl, rfl, hle, hhi, H1, H2, HB⟩ := hrel
    by_cases hlt : lo < hi
    · obtain ⟨m, hm⟩ : ∃ m, m = (lo + hi) / 2 := ⟨_, rfl⟩
      have hm1 : lo ≤ m := by omega
      have hm2 : m < hi := by omega
      have hml : m < l.length := by omega
      have hmi : ((lo : Int) + (hi : Int)) / 2 = (m : Int) := by omega
      obtain ⟨b, o, rfl, hc0, hc1⟩ := (HS.out.below HB.out).getP hml
      have HP := Lib.hid (List.pairwise_iff_getElem.1 HSO.out)
      have HQ1 := Lib.hid (fun (hx : l[m].1 < x) (t : Nat) (h : t < l.length) (ht : t < m + 1) => show l[t].1 < x by
        by_cases e : t = m
        · subst e; exact hx
        · have := HP.out t m h hml (by omega); omega)
      have HQ2 := Lib.hid (fun (hx : ¬ l[m].1 < x) (t : Nat) (h : t < l.length) (ht : m ≤ t) => show x ≤ l[t].1 by
        by_cases e : m = t
        · subst e; omega
        · have := HP.out m t hml h (by omega); omega)
      generalize l[m] = p at *
      obtain ⟨a, t⟩ := p
      simp only at *
      clear hm HP
      by_cases hax : a < x
      · have HN := Lib.hid (HQ1.out hax)
        have hcm : cmp3 a x = -1 := by unfold cmp3; rw [if_pos hax]
        have hC := fun w => fpCmp_any a x t w
        rw [hcm] at hC
        have HC := Lib.hid hC
        clear hC hcm HQ1 HQ2
        go_wp2_with ((first | go_at_call 74 | go_at_fn 74); refine (HC.out _).mono ?_; rintro e w2 ⟨rfl, hb2⟩; have HB2 := Lib.hid (Below_then HB.out hb2 (Nat.le_refl _)); clear hb2)
        go_roundw
        case rel => exact ⟨m + 1, hi, by go_num, rfl, by omega, hhi, HN.out, H2.out, HB2.out⟩
        case measure => simp [intOf]; omega
      · have HN := Lib.hid (HQ2.out hax)
        have hcm : ¬ cmp3 a x < 0 := by unfold cmp3; rw [if_neg hax]; split <;> omega
        have hC := fun w => fpCmp_any a x t w
        generalize cmp3 a x = cv at *
        have HC := Lib.hid hC
        clear hC HQ1 HQ2
        go_wp2_with ((first | go_at_call 74 | go_at_fn 74); refine (HC.out _).mono ?_; rintro e w2 ⟨rfl, hb2⟩; have HB2 := Lib.hid (Below_then HB.out hb2 (Nat.le_refl _)); clear hb2)
        go_roundw
        case rel => exact ⟨lo, m, rfl, rfl, by omega, by omega, H1.out, HN.out, HB2.out⟩
        case measure => simp [intOf]; omega
    · obtain rfl : hi = lo := by omega
      have HE := Lib.hid (below_of l x hi hhi H1.out (fun h => Int.not_lt.2 (H2.out hi h (Nat.le_refl _))))
      by_cases hn : hi < l.length
      · obtain ⟨b, o, rfl, hc0, hc1⟩ := (HS.out.below HB.out).getP hn
        have hh : hereP l x = decide (l[hi].1 = x) := by unfold hereP; rw [HE.out, getD_pc hn, decide_eq_true hn, Bool.true_and]
        have hnl := Int.not_lt.2 (H2.out hi hn (Nat.le_refl _))
        generalize l[hi] = p at *
        obtain ⟨a, t⟩ := p
        simp only at *
        by_cases hax : a = x
        · have HH := Lib.hid (show hereP l x = true by rw [hh]; exact decide_eq_true hax)
          have hcm : cmp3 a x = 0 := by unfold cmp3; rw [if_neg hnl, if_neg (by omega)]
          have hC := fun w => fpCmp_any a x t w
          rw [hcm] at hC
          have HC := Lib.hid hC
          clear hC hcm hh hax
          go_wp2_with ((first | go_at_call 74 | go_at_fn 74); refine (HC.out _).mono ?_; rintro e w2 ⟨rfl, hb2⟩; have HB2 := Lib.hid (Below_then HB.out hb2 (Nat.le_refl _)); clear hb2)
          go_ret2
          exact ⟨ret_two (by rw [HE.out]) (by rw [HH.out]), HB2.out⟩
        · have HH := Lib.hid (show hereP l x = false by rw [hh]; exact decide_eq_false hax)
          have hcm : (cmp3 a x == 0) = false := by unfold cmp3; rw [if_neg hnl, if_pos (by omega)]; rfl
          have hC := fun w => fpCmp_any a x t w
          generalize cmp3 a x = cv at *
          have HC := Lib.hid hC
          clear hC hh hax
          go_wp2_with ((first | go_at_call 74 | go_at_fn 74); refine (HC.out _).mono ?_; rintro e w2 ⟨rfl, hb2⟩; have HB2 := Lib.hid (Below_then HB.out hb2 (Nat.le_refl _)); clear hb2)
          go_ret2
          exact ⟨ret_two (by rw [HE.out]) (by rw [HH.out]), HB2.out⟩
      · have HH := Lib.hid (show hereP l x = false by unfold hereP; rw [HE.out, decide_eq_false hn]; rfl)
        go_wp2
        go_ret2
        exact ⟨ret_two (by rw [HE.out]) (by rw [HH.out]), HB.out⟩
set_option maxHeartbeats 4000000 in
set_option maxRecDepth 100000 in
theorem findPiece_any (A : Option Addr) (c : Nat) (l : List Pc) (x : Int) (w : World) (hs : Sl w encP 2 A l) (hl : l.length ≤ 16777216) (hso : Sorted l) :
    Calls Tryd.prog 61 #[.slice A l.length c, .int .i64 x] w (FpRes l x w) := by
  have HX := Lib.hid (fun w h => BSearch_any A c l x w h hl hso)
  have HS := Lib.hid hs
  clear hs hso
  unfold FpRes at *
  go_enter Tryd.func61, Tryd.ntmps61
  go_wp2_with fail
  refine (HX.out _ HS.out).mono ?_
  rintro e w1 ⟨rfl, hb⟩
  have HB := Lib.hid hb
  clear hb
  go_wp2
  go_ret2
  exact ⟨rfl, HB.out⟩
end Go.Proofs.YtaeaccakkielmaaDoor

/- PutText of the program, walked. -/
set_option linter.unusedVariables false
namespace Go.Proofs.YtaeaccakkielmaaDoor
open Go.RowKit
attribute [local go_sem] mk_toList

def PutRes (r : List Pc × Int × Bool) (w : World) (e : Ending) (w' : World) : Prop :=
  ∃ v, e = .returned (.tuple #[v, .int .i64 r.2.1, .bool r.2.2]) ∧ Own w' w.heap.size 58 2 encP v r.1 ∧ Below w.heap.size w w'
theorem InsertPc_any (base : Nat) (A : Option Addr) (c : Nat) (l : List Pc) (x : Pc) (i : Nat) (w : World) (vb : Nat) (hbase : base ≤ w.heap.size) (hown : Own w base 58 2 encP (.slice A l.length c) l)
    (hv : w.heap[vb]? = some (.cells #[.int .i64 x.1, .string x.2] 58 (0, 0))) (hne : ∀ g o, A = some ⟨g, o, none⟩ → vb ≠ g) (hi : i ≤ l.length) (hl : l.length ≤ 16777216) :
    Calls Tryd.prog 62 #[.slice A l.length c, .int .i64 (i : Nat), .slice (some ⟨vb, 0, none⟩) 1 1] w (InsRes base (l.take i ++ x :: l.drop i) w) := by
  by_cases e : i = l.length
  · subst e
    rw [← ins_end]
    exact Insert_end base _ l x w vb hbase hown hv hl
  · have h2 := hown.2
    rcases h2 with ⟨hv2, hn⟩ | ⟨g, cap, cur, hv2, hg, hh, hnc, hcm, hsz, ht⟩
    · omega
    · injection hv2 with e1 e2 e3
      subst e1 e3
      by_cases hr : l.length + 1 ≤ c
      · exact Insert_room base l x i w vb g c cur hbase hg hh hcm hsz ht hr hv (hne g 0 rfl) (by omega) hl
      · exact Insert_grow base l x i w vb g c cur hbase hg hh hnc ht (by omega) hv (by omega) hl
theorem Below_of_alloc2 {w2 w3 w4 : World} {x : Obj} (h3 : Below w2.heap.size w2 w3) (h4 : Below w2.heap.size (w3.alloc x) w4) : Below w2.heap.size w2 w4 := (h3.alloc h3.size x).trans h4
theorem ins_call {l : List Pc} {x : Pc} {B : Nat} {w0 w2 w3 : World} {X : Option Addr} {d : Nat} (hb2 : Below w0.heap.size w0 w2) (hown3 : Own w3 w2.heap.size 58 2 encP (.slice X l.length d) l) (hb3 : Below w2.heap.size w2 w3) (hB : B ≤ l.length) (hl : l.length ≤ 16777216) :
    Calls Tryd.prog 62 #[.slice X l.length d, .int .i64 (B : Nat), .slice (some ⟨w3.heap.size, 0, none⟩) 1 1] (w3.alloc (.cells #[.int .i64 x.1, .string x.2] 58)) fun e w' => ∃ v', e = .returned v' ∧ Own w' w0.heap.size 58 2 encP v' (l.take B ++ x :: l.drop B) ∧ Below w0.heap.size w0 w' :=
  (InsertPc_any w2.heap.size X d l x B _ w3.heap.size (Nat.le_trans hb3.size (by simp)) (hown3.alloc _) (heap_alloc_new w3 _) (by
    rintro g o rfl
    have := hown3.blk g rfl
    omega) hB hl).mono fun e w' ⟨v', he, ho, hb⟩ => ⟨v', he, ho.mono hb2.size, Below_then hb2 (Below_of_alloc2 hb3 hb) (Nat.le_refl _)⟩
set_option maxHeartbeats 1000000 in
set_option maxRecDepth 100000 in
theorem iPutText_any (A : Option Addr) (c : Nat) (l : List Pc) (t : ByteArray) (w : World) (hs : Sl w encP 2 A l) (hcz : A = none → c = 0) (hl : l.length ≤ 16777216) (hf : FitP l) (ht : t.size ≤ 16777216) :
    Calls Tryd.prog 41 #[.slice A l.length c, .string t] w (PutRes (putT l t) w) := by
  have HS := Lib.hid hs
  have HCZ := Lib.hid hcz
  have hsv := fun w h => iStoreValid_any A c l w h hl hf
  have HCL := Lib.hid (fun w h => ClonePc_any A c l w h HCZ.out hl)
  have hTV := fun w => iTextValid_any t w ht
  unfold OwnRes at HCL
  cases hv : storeV l
  case false =>
    have E := Lib.hid (putT_bad (t := t) hv)
    rw [hv] at hsv
    have HSV := Lib.hid hsv
    clear hsv hs hcz hTV
    rw [E.out]
    unfold PutRes
    go_enter Tryd.func41, Tryd.ntmps41
    go_wp2_with fail
    refine (HSV.out _ HS.out).mono ?_
    rintro e w1 ⟨rfl, hb⟩
    have HB := Lib.hid hb
    clear hb
    go_wp2
    go_ret3
    exact ⟨_, rfl, Own.nil, HB.out⟩
  case true =>
    rw [hv] at hsv
    have HSV := Lib.hid hsv
    clear hsv hs hcz
    cases htv : textV (bs t)
    case false =>
      have E := Lib.hid (putT_text (t := t) hv htv)
      rw [htv] at hTV
      have HTV := Lib.hid hTV
      clear hTV
      rw [E.out]
      unfold PutRes
      go_enter Tryd.func41, Tryd.ntmps41
      go_wp2_with (first
        | (go_at_call 23; refine (HSV.out _ HS.out).mono ?_; rintro e w1 ⟨rfl, hb⟩; have HB1 := Lib.hid hb; have HS1 := Lib.hid (HS.out.below hb); clear hb)
        | (go_at_call 45; refine (HTV.out _).mono ?_; rintro e w' ⟨rfl, rfl⟩)
        | (go_at_call 60; refine (HCL.out _ HS1.out).mono ?_; rintro e w2 ⟨v2, rfl, hown2, hb2⟩; have HW2 := Lib.hid hown2; have HB2 := Lib.hid (Below_then HB1.out hb2 (Nat.le_refl _)); clear hown2 hb2))
      go_ret3
      exact ⟨_, rfl, HW2.out.mono HB1.out.size, HB2.out⟩
    case true =>
      rw [htv] at hTV
      have HTV := Lib.hid hTV
      have hPO := fun w => iPrintOf_any t w ht
      have HFP := Lib.hid (fun w h => findPiece_any A c l (prOf (bs t)) w h hl (storeV_sorted hv))
      have hgh := getT_here (storeV_sorted hv) (p := prOf (bs t))
      have hbl := below_le l (prOf (bs t))
      have hl40 := storeV_len hv
      have H0 := Lib.hid (putT_there hv htv)
      have H1 := Lib.hid (fun u => putT_clash (u := u) hv htv)
      have H2 := Lib.hid (putT_full hv htv)
      have H3 := Lib.hid (putT_new hv htv)
      unfold FpRes at HFP
      unfold tx at H0 H1 H2 H3
      generalize prOf (bs t) = p at *
      have HPO := Lib.hid hPO
      clear hTV hPO
      cases hh : hereP l p
      case true =>
        rw [hh, if_pos rfl] at hgh
        have hlt : below l p < l.length := by unfold hereP at hh; simp at hh; exact hh.1
        rw [getD_pc hlt] at hgh
        rw [hh] at HFP
        have HG := Lib.hid (fun (w : World) (h : Sl w encP 2 A l) => h.getP hlt)
        generalize l[below l p] = q at *
        obtain ⟨q0, u⟩ := q
        simp only at *
        generalize below l p = B at *
        obtain ⟨b, o, rfl, _, _⟩ := HG.out w HS.out
        by_cases hu : u = t
        case pos =>
          have E := Lib.hid (H0.out (by rw [hgh, hu]))
          clear H0 H1 H2 H3
          subst hu
          rw [E.out]
          unfold PutRes
          go_enter Tryd.func41, Tryd.ntmps41
          go_wp2_with (first
            | (go_at_call 23; refine (HSV.out _ HS.out).mono ?_; rintro e w1 ⟨rfl, hb⟩; have HB1 := Lib.hid hb; have HS1 := Lib.hid (HS.out.below hb); clear hb)
            | (go_at_call 45; refine (HTV.out _).mono ?_; rintro e w' ⟨rfl, rfl⟩)
            | (go_at_call 46; refine (HPO.out _).mono ?_; rintro e w' ⟨rfl, rfl⟩)
            | (go_at_call 61; refine (HFP.out _ HS1.out).mono ?_; rintro e w2 ⟨rfl, hb2⟩; have HB2 := Lib.hid (Below_then HB1.out hb2 (Nat.le_refl _)); have HS2 := Lib.hid (HS1.out.below hb2); obtain ⟨b', o', e', hc0, hc1⟩ := HG.out _ HS2.out; have hbb : b' = b ∧ o' = o := (by injection e' with e'; injection e' with e1 e2; exact ⟨e1.symm, e2.symm⟩); obtain ⟨rfl, rfl⟩ := hbb; clear hb2 e')
            | (go_at_call 60; refine (HCL.out _ HS2.out).mono ?_; rintro e w3 ⟨v3, rfl, hown3, hb3⟩; have HW3 := Lib.hid hown3; have HB3 := Lib.hid (Below_then HB2.out hb3 (Nat.le_refl _));  clear hown3 hb3))
          go_ret3
          exact ⟨_, rfl, HW3.out.mono HB2.out.size, HB3.out⟩
        case neg =>
          have E := Lib.hid (H1.out u hgh hu)
          clear H0 H1 H2 H3
          have hne : (u.toList == t.toList) = false := by
            rw [ByteArray.toList_eq, ByteArray.toList_eq]
            rw [beq_eq_false_iff_ne]; intro e
            apply hu
            rw [← mk_bs u, ← mk_bs t, e]
          rw [E.out]
          unfold PutRes
          go_enter Tryd.func41, Tryd.ntmps41
          go_wp2_with (first
            | (go_at_call 23; refine (HSV.out _ HS.out).mono ?_; rintro e w1 ⟨rfl, hb⟩; have HB1 := Lib.hid hb; have HS1 := Lib.hid (HS.out.below hb); clear hb)
            | (go_at_call 45; refine (HTV.out _).mono ?_; rintro e w' ⟨rfl, rfl⟩)
            | (go_at_call 46; refine (HPO.out _).mono ?_; rintro e w' ⟨rfl, rfl⟩)
            | (go_at_call 61; refine (HFP.out _ HS1.out).mono ?_; rintro e w2 ⟨rfl, hb2⟩; have HB2 := Lib.hid (Below_then HB1.out hb2 (Nat.le_refl _)); have HS2 := Lib.hid (HS1.out.below hb2); obtain ⟨b', o', e', hc0, hc1⟩ := HG.out _ HS2.out; have hbb : b' = b ∧ o' = o := (by injection e' with e'; injection e' with e1 e2; exact ⟨e1.symm, e2.symm⟩); obtain ⟨rfl, rfl⟩ := hbb; clear hb2 e')
            | (go_at_call 60; refine (HCL.out _ HS2.out).mono ?_; rintro e w3 ⟨v3, rfl, hown3, hb3⟩; have HW3 := Lib.hid hown3; have HB3 := Lib.hid (Below_then HB2.out hb3 (Nat.le_refl _));  clear hown3 hb3))
          go_ret3
          exact ⟨_, rfl, HW3.out.mono HB2.out.size, HB3.out⟩
      case false =>
        rw [hh, if_neg (by simp)] at hgh
        rw [hh] at HFP
        by_cases h40 : l.length = 40
        case pos =>
          have E := Lib.hid (H2.out hgh h40)
          clear H0 H1 H2 H3
          rw [E.out]
          have h40' : (l.length : Int) = 40 := by omega
          generalize below l p = B at *
          clear hbl hl40 hv hh hgh h40
          unfold PutRes
          go_enter Tryd.func41, Tryd.ntmps41
          go_wp2_with (first
            | (go_at_call 23; refine (HSV.out _ HS.out).mono ?_; rintro e w1 ⟨rfl, hb⟩; have HB1 := Lib.hid hb; have HS1 := Lib.hid (HS.out.below hb); clear hb)
            | (go_at_call 45; refine (HTV.out _).mono ?_; rintro e w' ⟨rfl, rfl⟩)
            | (go_at_call 46; refine (HPO.out _).mono ?_; rintro e w' ⟨rfl, rfl⟩)
            | (go_at_call 61; refine (HFP.out _ HS1.out).mono ?_; rintro e w2 ⟨rfl, hb2⟩; have HB2 := Lib.hid (Below_then HB1.out hb2 (Nat.le_refl _)); have HS2 := Lib.hid (HS1.out.below hb2); clear hb2)
            | (go_at_call 60; refine (HCL.out _ HS2.out).mono ?_; rintro e w3 ⟨v3, rfl, hown3, hb3⟩; have HW3 := Lib.hid hown3; have HB3 := Lib.hid (Below_then HB2.out hb3 (Nat.le_refl _));  clear hown3 hb3))
          go_ret3
          exact ⟨_, rfl, HW3.out.mono HB2.out.size, HB3.out⟩
        case neg =>
          have E := Lib.hid (H3.out hgh h40)
          clear H0 H1 H2 H3
          rw [E.out]
          have h40' : ¬ (l.length : Int) = 40 := by omega
          generalize below l p = B at *
          clear hv hh hgh
          unfold PutRes
          go_enter Tryd.func41, Tryd.ntmps41
          go_wp2_with (first
            | (go_at_call 23; refine (HSV.out _ HS.out).mono ?_; rintro e w1 ⟨rfl, hb⟩; have HB1 := Lib.hid hb; have HS1 := Lib.hid (HS.out.below hb); clear hb)
            | (go_at_call 45; refine (HTV.out _).mono ?_; rintro e w' ⟨rfl, rfl⟩)
            | (go_at_call 46; refine (HPO.out _).mono ?_; rintro e w' ⟨rfl, rfl⟩)
            | (go_at_call 61; refine (HFP.out _ HS1.out).mono ?_; rintro e w2 ⟨rfl, hb2⟩; have HB2 := Lib.hid (Below_then HB1.out hb2 (Nat.le_refl _)); have HS2 := Lib.hid (HS1.out.below hb2); clear hb2)
            | (go_at_call 60; refine (HCL.out _ HS2.out).mono ?_; rintro e w3 ⟨v3, rfl, hown3, hb3⟩; have HW3 := Lib.hid hown3; have HB3 := Lib.hid (Below_then HB2.out hb3 (Nat.le_refl _)); obtain ⟨X, d3, rfl, _, _, hX3⟩ := hown3.sl; have hb3z := Lib.hid hb3.size; have hb3y := Lib.hid hb3; clear hown3 hb3)
            | (go_at_call 62; refine (ins_call (x := (p, t)) HB2.out HW3.out hb3y.out hbl hl).mono ?_; rintro e w4 ⟨v4, rfl, hown4, hb4⟩; have HW4 := Lib.hid hown4; have HB4 := Lib.hid hb4; clear hown4 hb4))
          go_ret3
          exact ⟨_, rfl, HW4.out, HB4.out⟩
end Go.Proofs.YtaeaccakkielmaaDoor

/- Regions that draw their order, by an invariant: one case for each operation, whatever came before it. -/
set_option linter.unusedVariables false
namespace Go.Proofs.YtaeaccakkielmaaDoor
open Go.RowKit

/-- Each operation waits for earlier ones alone. -/
def afterLow (l : List Oper) : Bool := (List.range l.length).all fun i => ((l[i]?).map fun o => o.after.all fun e => !Region.binds .any e || decide (e.on < i)).getD true
/-- What is asked of each operation: from the invariant to the invariant. -/
def InvSteps (P : Program) (ops : Array Oper) (Q : Exit → Act → World → Prop) (J : (Nat → Bool) → Act → World → Prop) : Nat → List Oper → Prop
  | _, [] => True
  | i, o :: r => (∀ (d : Nat → Bool) (a : Act) (w : World) (K : Act → World → Prop), d i = false → (∀ e ∈ o.after, Region.binds .any e = true → d e.on = true) → J d a w → (∀ a' w', J (fun j => j == i || d j) a' w' → K a' w') →
      if Region.wanted o (yielded ops a.tmps) = true then o.wp P a w K Q else K (a.put o.dst undef) w) ∧ InvSteps P ops Q J (i + 1) r
theorem InvSteps.at {P : Program} {ops : Array Oper} {Q : Exit → Act → World → Prop} {J : (Nat → Bool) → Act → World → Prop} : ∀ (l : List Oper) (k i : Nat) (o : Oper), InvSteps P ops Q J k l → l[i]? = some o →
    ∀ (d : Nat → Bool) (a : Act) (w : World) (K : Act → World → Prop), d (k + i) = false → (∀ e ∈ o.after, Region.binds .any e = true → d e.on = true) → J d a w → (∀ a' w', J (fun j => j == k + i || d j) a' w' → K a' w') →
      if Region.wanted o (yielded ops a.tmps) = true then o.wp P a w K Q else K (a.put o.dst undef) w
  | [], _, _, _, _, h => by simp at h
  | x :: r, k, 0, o, hs, h => by
    simp at h; subst h; exact hs.1
  | x :: r, k, i + 1, o, hs, h => by
    have h1 := InvSteps.at r (k + 1) i o hs.2 (by simpa using h)
    have e : k + 1 + i = k + (i + 1) := by omega
    rw [e] at h1; exact h1
theorem dn_set {listed : Array Bool} {i : Nat} (hi : i < listed.size) : (fun j => (listed.setIfInBounds i true).getD j false) = fun j => j == i || listed.getD j false := by
  funext j
  by_cases e : j = i
  · subst e; simp [hi]
  · have hij : i ≠ j := fun h => e h.symm
    rw [getD_set_ne false hij]; simp [e]
theorem count_set {n : Nat} {listed : Array Bool} {i : Nat} (hs : listed.size = n) (hi : i < n) (h : listed.getD i false = false) :
    (List.range n).countP (fun j => !(listed.setIfInBounds i true).getD j false) + 1 = (List.range n).countP (fun j => !listed.getD j false) := by
  have hf := dn_set (listed := listed) (i := i) (by omega)
  have e : (fun j => !(listed.setIfInBounds i true).getD j false) = fun j => !(j == i || listed.getD j false) := by
    funext j; exact congrArg (fun b => !b) (congrFun hf j)
  rw [e]
  have aux : ∀ l : List Nat, l.Nodup → i ∈ l → l.countP (fun j => !(j == i || listed.getD j false)) + 1 = l.countP (fun j => !listed.getD j false) := by
    intro l
    induction l with
    | nil => intro _ hm; simp at hm
    | cons x r ih =>
      intro hnd hm
      rw [List.nodup_cons] at hnd
      rw [List.countP_cons, List.countP_cons]
      by_cases hx : x = i
      · subst hx
        have hr : r.countP (fun j => !(j == x || listed.getD j false)) = r.countP (fun j => !listed.getD j false) := by
          refine List.countP_congr fun y hy => ?_
          have : y ≠ x := fun e => hnd.1 (e ▸ hy)
          simp [this]
        rw [hr]; simp [h]
      · have hm' : i ∈ r := by
          rcases List.mem_cons.1 hm with e | e
          · exact absurd e.symm hx
          · exact e
        have := ih hnd.2 hm'
        have e2 : (x == i) = false := by simpa using hx
        simp only [e2, Bool.false_or]
        omega
  exact aux _ List.nodup_range (List.mem_range.2 hi)
theorem wpAny_inv {P : Program} {l : List Oper} {Q : Exit → Act → World → Prop} (J : (Nat → Bool) → Act → World → Prop) (hlow : afterLow l = true) (hs : InvSteps P l.toArray Q J 0 l)
    (hend : ∀ d a w, (∀ i, i < l.length → d i = true) → J d a w → Q .normal a w) :
    ∀ (fuel : Nat) (listed : Array Bool) (a : Act) (w : World), listed.size = l.length → (List.range l.length).countP (fun j => !listed.getD j false) ≤ fuel → J (fun j => listed.getD j false) a w → wpAny P .any l.toArray Q fuel listed a w := by
  have hbinds : ∀ e, Region.binds .any e = true ∨ Region.binds .any e = false := fun e => by cases Region.binds .any e <;> simp
  -- where nothing can come up, all has come up
  have hall : ∀ listed : Array Bool, listed.size = l.length → Region.ready .any l.toArray listed = [] → ∀ i, i < l.length → listed.getD i false = true := by
    intro listed hsz hr i
    induction i using Nat.strongRecOn with
    | _ i ih =>
      intro hi
      by_cases h : listed.getD i false = true
      · exact h
      · exfalso
        have hm : i ∈ Region.ready .any l.toArray listed := by
          rw [mem_ready]
          refine ⟨?_, l[i], by simp [hi], fun e he hbe => ?_⟩
          · have hh : listed.getD i false = false := by simpa using h
            rw [Array.getD_eq_getD_getElem?, Array.getElem?_eq_getElem (by omega)] at hh ⊢; simpa using hh
          · unfold afterLow at hlow
            rw [List.all_eq_true] at hlow
            have h1 := hlow i (List.mem_range.2 hi)
            rw [List.getElem?_eq_getElem hi] at h1
            simp only [Option.map_some, Option.getD_some] at h1
            have h3 := Array.all_eq_true_iff_forall_mem.1 h1 e he
            rw [hbe, Bool.not_true, Bool.false_or] at h3
            have h2 := of_decide_eq_true h3
            exact ih _ h2 (by omega)
        rw [hr] at hm; simp at hm
  intro fuel
  induction fuel with
  | zero =>
    intro listed a w hsz hc hJ
    have hz : ∀ i, i < l.length → listed.getD i false = true := by
      intro i hi
      have h0 : (List.range l.length).countP (fun j => !listed.getD j false) = 0 := by omega
      rw [List.countP_eq_zero] at h0
      simpa using h0 i (List.mem_range.2 hi)
    refine ⟨?_, hend _ a w hz hJ⟩
    cases hr : Region.ready .any l.toArray listed with
    | nil => rfl
    | cons x r =>
      exfalso
      have hm : x ∈ Region.ready .any l.toArray listed := by rw [hr]; simp
      rw [mem_ready] at hm
      obtain ⟨h1, o, ho, _⟩ := hm
      have hx : x < l.length := by
        have := (Array.getElem?_eq_some_iff.1 ho).1; simpa using this
      have h2 := hz x hx
      rw [Array.getD_eq_getD_getElem?, Array.getElem?_eq_getElem (by omega)] at h1 h2
      simp at h1 h2; rw [h1] at h2; cases h2
  | succ fuel ih =>
    intro listed a w hsz hc hJ
    refine ⟨fun hr => hend _ a w (hall listed hsz hr) hJ, fun i hi => ?_⟩
    rw [mem_ready] at hi
    obtain ⟨h1, o, ho, haft⟩ := hi
    have hx : i < l.length := by
      have := (Array.getElem?_eq_some_iff.1 ho).1; simpa using this
    have hd : listed.getD i false = false := by
      rw [Array.getD_eq_getD_getElem?, Array.getElem?_eq_getElem (by omega)] at h1 ⊢; simpa using h1
    have hlo : l[i]? = some o := by simpa using ho
    have hcnt := count_set hsz hx hd
    have hstep := InvSteps.at l 0 i o hs hlo (fun j => listed.getD j false) a w (wpAny P .any l.toArray Q fuel (listed.setIfInBounds i true)) (by simpa using hd) haft hJ (fun a' w' hJ' => by
      refine ih _ a' w' (by simpa using hsz) (by omega) ?_
      rw [dn_set (by omega)]
      simpa using hJ')
    unfold wpOp
    simp only [ho]
    split
    · rename_i hw; rw [if_pos hw] at hstep; exact .inl hstep
    · rename_i hw; rw [if_neg hw] at hstep; exact hstep
/-- **A region that draws its order, by an invariant**: 'd' says which operations have come up. -/
theorem wp_region_inv {P : Program} {id : Nat} {Q : Exit → Act → World → Prop} {a : Act} {w : World} {l : List Oper} (hm : P.follows .mixedOrders = true) (hlow : afterLow l = true)
    (J : Act → (Nat → Bool) → Act → World → Prop) (h0 : J a (fun _ => false) a w.drew) (hs : InvSteps P l.toArray Q (J a) 0 l) (hend : ∀ d a' w', (∀ i, i < l.length → d i = true) → J a d a' w' → Q .normal a' w') :
    (Code.region id l.toArray true).wp P Q a w := by
  refine wp_region_any hm (wpAny_inv (J a) hlow hs hend _ _ _ _ (by simp) ?_ ?_)
  · refine Nat.le_trans List.countP_le_length ?_; simp
  · have e : (fun j => (Array.replicate l.toArray.size false).getD j false) = fun _ => false := by
      funext j
      rw [Array.getD_eq_getD_getElem?, Array.getElem?_replicate]
      split <;> rfl
    rw [e]; exact h0
end Go.Proofs.YtaeaccakkielmaaDoor
