/- Rows of structs: one element written anew; repaired pieces, walked. -/
import Derived.Test.YtbefbenihahdnaaAp2
import Derived.Test.YtbefbenihahdnaaDm
import Derived.Test.YtbefbenihahdnaaRd
set_option linter.unusedVariables false
namespace Go.Proofs.Ytbefbenihahdnaa
open Go.RowKit

theorem setAll_cells {g : Nat} {E : TypeId} {m : Nat × Nat} : ∀ (us : List Value) (w : World) (j : Nat) (cs : Array Value), w.heap[g]? = some (.cells cs E (0, 0)) →
    ∃ cs' : Array Value, (setAll w g j us).heap[g]? = some (.cells cs' E (0, 0)) ∧ cs'.size = cs.size ∧ ∀ p, cs'[p]? = if j ≤ p ∧ p < j + us.length ∧ p < cs.size then us[p - j]? else cs[p]?
  | [], w, j, cs, h => ⟨cs, h, rfl, fun p => by rw [if_neg]; simp; omega⟩
  | u :: r, w, j, cs, h => by
    obtain ⟨cs', h1, h2, h3⟩ := setAll_cells (m := m) r (w.setCell ⟨g, j, none⟩ u) (j + 1) (cs.setIfInBounds j u) (heap_setCell_same w g j cs E u h)
    refine ⟨cs', h1, by rw [h2]; simp, fun p => ?_⟩
    rw [h3 p]
    simp only [Array.size_setIfInBounds, List.length_cons]
    by_cases hp : p = j
    · subst hp
      rw [if_neg (by omega)]
      by_cases hs : p < cs.size
      · rw [if_pos (by omega)]; simp [hs]
      · rw [if_neg (by omega), Array.getElem?_eq_none (by simp; omega), Array.getElem?_eq_none (by omega)]
    · rw [Array.getElem?_setIfInBounds_ne (by omega)]
      by_cases hh : j + 1 ≤ p ∧ p < j + 1 + r.length ∧ p < cs.size
      · rw [if_pos hh, if_pos (by omega)]
        have e : p - j = p - (j + 1) + 1 := by omega
        rw [e, List.getElem?_cons_succ]
      · rw [if_neg hh, if_neg (by omega)]
/-- Element i of an owned row written anew. -/
theorem Own.setEl {α : Type} {enc : α → List Value} {w : World} {base size : Nat} {E : TypeId} {g n cap : Nat} {l : List α} (h : Own w base E size enc (.slice (some ⟨g, 0, none⟩) n cap) l) (he : ∀ x, (enc x).length = size) (hsz : 0 < size) {i : Nat} (hi : i < l.length) (x : α) :
    Own (setAll w g (i * size) (enc x)) base E size enc (.slice (some ⟨g, 0, none⟩) n cap) (l.set i x) := by
  rcases h.2 with ⟨hv, hn⟩ | ⟨g', cap', cur, hv, hg, hh, hnc, hcm, hs, ht⟩
  · injection hv with e; cases e
  · injection hv with e1 e2 e3
    injection e1 with e1; injection e1 with e1
    subst e1 e2 e3
    obtain ⟨cs', h1, h2, h3⟩ := setAll_cells (m := (0, 0)) (enc x) w (i * size) cur hh
    refine ⟨flat_length he _, .inr ⟨g, cap, cs', by rw [List.length_set], hg, h1, by rw [List.length_set]; exact hnc, hcm, by rw [h2]; exact hs, ?_⟩⟩
    have hlen : (flat enc (l.set i x)).length = l.length * size := by rw [flat_length he, List.length_set]
    have hls : l.length * size ≤ cur.size := by rw [hs]; exact Nat.mul_le_mul_right _ hnc
    have hi2 : i * size + size ≤ l.length * size := by
      have := Nat.mul_le_mul_right size (show i + 1 ≤ l.length from hi)
      rwa [Nat.succ_mul] at this
    have h0 : (flat enc l).length = l.length * size := flat_length he l
    rw [List.length_set]
    apply List.ext_getElem?
    intro p
    by_cases hp : p < l.length * size
    · rw [List.getElem?_take_of_lt hp, Array.getElem?_toList, h3 p, he]
      have hq : p / size < l.length := Nat.div_lt_of_lt_mul (by rwa [Nat.mul_comm] at hp)
      have hdm : p / size * size + p % size = p := by rw [Nat.mul_comm]; exact Nat.div_add_mod p size
      have hms := Nat.mod_lt p hsz
      have hg2 := flat_get he (l.set i x) (p / size) (by rw [List.length_set]; exact hq) (p % size) hms
      rw [hdm] at hg2
      rw [hg2, List.getElem_set]
      by_cases hqi : i = p / size
      · subst hqi
        rw [if_pos rfl, if_pos (by omega)]
        congr 1; omega
      · rw [if_neg hqi, if_neg]
        · have hg3 := flat_get he l (p / size) hq (p % size) hms
          rw [hdm] at hg3
          rw [← hg3]
          have this : (cur.toList.take (l.length * size))[p]? = (flat enc l)[p]? := by rw [ht]
          rw [List.getElem?_take_of_lt hp, Array.getElem?_toList] at this
          exact this
        · intro hh
          apply hqi
          have a1 : i ≤ p / size := (Nat.le_div_iff_mul_le hsz).2 hh.1
          have a2 : p / size < i + 1 := Nat.div_lt_of_lt_mul (by rw [Nat.mul_comm, Nat.succ_mul]; exact hh.2.1)
          omega
    · rw [List.getElem?_eq_none (by simp; omega), List.getElem?_eq_none (by omega)]
theorem Own.free' {α : Type} {enc : α → List Value} {w : World} {base size : Nat} {E : TypeId} {g n cap : Nat} {l : List α} (h : Own w base E size enc (.slice (some ⟨g, 0, none⟩) n cap) l) (j : Nat) : w.frozen? ⟨g, j, none⟩ = false := by
  rcases h.2 with ⟨hv, hn⟩ | ⟨g', cap', cur, hv, hg, hh, hnc, hcm, hs, ht⟩
  · injection hv with e; cases e
  · injection hv with e1
    injection e1 with e1; injection e1 with e1
    subst e1
    exact frozen_of_row w g j cur E hh
/-- An owned row that is not empty: its head. -/
theorem Own.head {α : Type} {enc : α → List Value} {w : World} {base size : Nat} {E : TypeId} {A : Option Addr} {n c : Nat} {l : List α} (h : Own w base E size enc (.slice A n c) l) (hl : 0 < l.length) : ∃ g, A = some ⟨g, 0, none⟩ ∧ base ≤ g ∧ g < w.heap.size := by
  obtain ⟨A', c', e, _, _, hb⟩ := h.sl
  injection e with e1
  rcases hb with ⟨hz, _⟩ | ⟨g, hg, h1, h2⟩
  · subst hz; simp at hl
  · exact ⟨g, e1.trans hg, h1, h2⟩
theorem Own.apart {α : Type} {enc : α → List Value} {w w' : World} {g base size : Nat} {E : TypeId} {v : Value} {l : List α} (h : Own w base E size enc v l) (ho : Only g w w') (hb : ∀ q, v.ownBlock = some q → q ≠ g) : Own w' base E size enc v l := by
  refine World.ownsRow.kept h (row := some g) ho ?_
  cases hv : v.ownBlock with
  | none => exact .inl rfl
  | some k => right; intro e; injection e with e; exact hb k hv e

/-! ### plain -/
theorem find_take {α : Type} (f : α → Bool) (l : List α) (j : Nat) (h : j < l.length) : (l.take (j + 1)).find? f = ((l.take j).find? f).or (if f l[j] then some l[j] else none) := by
  rw [List.take_succ_eq_append_getElem h, List.find?_append]
  congr 1
  cases h2 : f l[j] <;> simp [h2]
theorem goodCopy_take {p : Int} {copies : List Pc} {j : Nat} (h : j < copies.length) : goodCopy p (copies.take (j + 1)) = (goodCopy p (copies.take j)).or (if copies[j].1 == p && pieceR copies[j] then some copies[j] else none) :=
  find_take _ copies j h
theorem goodCopy_prefix {p : Int} {copies : List Pc} {j : Nat} {q : Pc} (h : goodCopy p (copies.take j) = some q) : goodCopy p copies = some q := by
  unfold goodCopy at *
  have e : copies = copies.take j ++ copies.drop j := (List.take_append_drop _ _).symm
  rw [e, List.find?_append, h]; rfl
theorem repair1_none {copies : List Pc} {p : Pc} (h : pieceR p = false) (hg : goodCopy p.1 copies = none) : repair1 copies p = (p, 0) := by unfold repair1; rw [if_neg (by simp [h]), hg]
theorem repair1_some {copies : List Pc} {p q : Pc} (h : pieceR p = false) (hg : goodCopy p.1 copies = some q) : repair1 copies p = (q, 1) := by unfold repair1; rw [if_neg (by simp [h]), hg]
theorem repairs_len (copies l : List Pc) : (repairs copies l).length = l.length := by simp [repairs]
theorem repairs_take {copies l : List Pc} {k : Nat} (h : k < l.length) : repairs copies (l.take (k + 1)) = repairs copies (l.take k) ++ [(repair1 copies l[k]).1] := by
  unfold repairs; rw [List.take_succ_eq_append_getElem h, List.map_append]; rfl
/-- The row while it is repaired: the first k are, the rest is not. -/
def halfRep (copies l : List Pc) (k : Nat) : List Pc := repairs copies (l.take k) ++ l.drop k
theorem halfRep_len (copies l : List Pc) (k : Nat) : (halfRep copies l k).length = l.length := by unfold halfRep; rw [List.length_append, repairs_len, List.length_take, List.length_drop]; omega
theorem halfRep_at {copies l : List Pc} {k : Nat} (h : k < l.length) : (halfRep copies l k)[k]'(by rw [halfRep_len]; exact h) = l[k] := by
  have hl : (repairs copies (l.take k)).length = k := by rw [repairs_len, List.length_take]; omega
  unfold halfRep
  rw [List.getElem_append_right (by omega), List.getElem_drop]
  congr 1; omega
theorem halfRep_succ {copies l : List Pc} {k : Nat} (h : k < l.length) : halfRep copies l (k + 1) = (halfRep copies l k).set k (repair1 copies l[k]).1 := by
  have hl : (repairs copies (l.take k)).length = k := by rw [repairs_len, List.length_take]; omega
  unfold halfRep
  rw [repairs_take h, List.set_append_right _ _ (by omega), hl, Nat.sub_self]
  have e : l.drop k = l[k] :: l.drop (k + 1) := List.drop_eq_getElem_cons h
  rw [e, List.set_cons_zero, List.append_assoc]; rfl
theorem halfRep_same {copies l : List Pc} {k : Nat} (h : k < l.length) (hr : (repair1 copies l[k]).1 = l[k]) : halfRep copies l (k + 1) = halfRep copies l k := by
  rw [halfRep_succ h, hr]
  apply List.ext_getElem (by simp)
  intro q h1 h2
  rw [List.getElem_set]
  split
  · rename_i e; subst e; exact (halfRep_at h).symm
  · rfl
theorem halfRep_done {copies l : List Pc} {k : Nat} (h : ¬ k < l.length) : halfRep copies l k = repairs copies l := by
  unfold halfRep; rw [List.take_of_length_le (by omega), List.drop_of_length_le (by omega), List.append_nil]
def RepR (l copies : List Pc) (w : World) (e : Ending) (w' : World) : Prop :=
  ∃ v, e = .returned (.tuple #[v, .int .i64 (many copies l)]) ∧ Own w' w.heap.size 30 2 encP v (repairs copies l) ∧ Below w.heap.size w w'

set_option maxHeartbeats 8000000 in
set_option maxRecDepth 100000 in
theorem iRepairPieces_any (A B : Option Addr) (c d : Nat) (l copies : List Pc) (w : World) (hs : Sl w encP 2 A l) (hcz : A = none → c = 0) (hs2 : Sl w encP 2 B copies) (hl : l.length ≤ 16777216) (hl2 : copies.length ≤ 16777216) (hf : FitP l) (hf2 : FitP copies) :
    Calls Try.prog 78 #[.slice A l.length c, .slice B copies.length d] w (RepR l copies w) := by
  have HS := Lib.hid hs
  have HS2 := Lib.hid hs2
  have HF := Lib.hid hf
  have HF2 := Lib.hid hf2
  have HC := Lib.hid hcz
  clear hs hs2 hf hf2 hcz
  go_enter Try.func78, Try.ntmps78
  go_wp2_with fail
  refine (ClonePc_any _ _ _ _ HS.out HC.out hl).mono ?_
  rintro e w1 ⟨v1, rfl, hown1, hb1⟩
  obtain ⟨A1, c1, rfl, _, _, _⟩ := hown1.sl
  have HW1 := Lib.hid hown1
  have HB1 := Lib.hid hb1
  clear hown1 hb1
  go_wp2_with fail
  go_loopw [7, 16] (fun sm si wr => ∃ (k : Nat) (M : Int), k ≤ l.length ∧ si = .int .i64 k ∧ sm = .int .i64 M ∧ 0 ≤ M ∧ M ≤ k ∧ Hid (M = many copies (l.take k)) ∧ Hid (Own wr w.heap.size 30 2 encP (.slice A1 l.length c1) (halfRep copies l k)) ∧ Hid (Below w.heap.size w wr)) (fun _ si _ => l.length - (intOf si).toNat)
  case atStart => exact ⟨0, 0, Nat.zero_le _, rfl, rfl, by omega, by omega, rfl, HW1.out, HB1.out⟩
  case round =>
    obtain ⟨k, M, hk, rfl, rfl, hM0, hMk, hM, HW, HB⟩ := hrel
    clear HW1 HB1
    obtain ⟨wo, rfl⟩ : ∃ wo : World, wo = wr := ⟨_, rfl⟩
    by_cases hlt : k < l.length
    · obtain ⟨g, rfl, hg1, hg2⟩ := HW.out.head (by rw [halfRep_len]; omega)
      obtain ⟨b, o, e, hc0, hc1⟩ := HW.out.sl'.getP (k := k) (by rw [halfRep_len]; exact hlt)
      injection e with e; injection e with e1 e2
      subst e1 e2
      rw [halfRep_at hlt] at hc0 hc1
      simp only [Nat.zero_add] at hc0 hc1
      have hfk := HF.out.at hlt
      have hmt := many_take (copies := copies) hlt
      have hsame := halfRep_same (copies := copies) hlt
      have hsucc := halfRep_succ (copies := copies) hlt
      have hR := iPieceRight_any l[k].1 l[k].2
      have HG := Lib.hid hg1
      clear hg1 hg2
      generalize l[k] = p at *
      have HMT := Lib.hid hmt
      have HSAME := Lib.hid hsame
      have HSUCC := Lib.hid hsucc
      clear hmt hsame hsucc
      rw [show pieceR (p.1, p.2) = pieceR p from rfl] at hR
      cases hp : pieceR p
      · rw [hp] at hR
        have HR := Lib.hid hR
        clear hR
        have HP := Lib.hid hp
        clear hp
        go_wp2_with fail
        refine (HR.out _ hfk).mono ?_
        rintro e w2 ⟨rfl, hb2⟩
        have hq0 : w2.cell? ⟨wo.heap.size, 0, none⟩ = some (.int .i64 p.1) := box_cell hb2 0 rfl
        have HW2 := Lib.hid (HW.out.below (Below_of_alloc hb2))
        have HB2 := Lib.hid (Below_then HB.out (Below_of_alloc hb2) (Nat.le_refl _))
        have hsz2 : wo.heap.size < w2.heap.size := by have := hb2.size; simp at this; omega
        clear hb2 hc0 hc1 HR
        go_wp2_with fail
        go_loopw [7, 25] (fun sm sj wr2 => ∃ (j : Nat), j ≤ copies.length ∧ sj = .int .i64 j ∧ sm = .int .i64 M ∧ Hid (goodCopy p.1 (copies.take j) = none) ∧ Hid (Below w2.heap.size w2 wr2)) (fun _ sj _ => copies.length - (intOf sj).toNat)
        case atStart => exact ⟨0, Nat.zero_le _, rfl, rfl, rfl, Below.refl _ _⟩
        case round =>
          obtain ⟨j, hj, rfl, rfl, hno, HX⟩ := hrel
          by_cases hjl : j < copies.length
          · obtain ⟨b2, o2, rfl, hd0, hd1⟩ := (HS2.out.below (Below_then HB2.out HX.out (Nat.le_refl _))).getP hjl
            have hlt3 : wo.heap.size < wr.heap.size := Nat.lt_of_lt_of_le hsz2 HX.out.size
            have hqx := fun o => (World.cell?_alloc_lt wr o ⟨wo.heap.size, 0, none⟩ hlt3).trans (Below_cells HX.out _ _ _ hq0)
            have hfj := HF2.out.at hjl
            have hgt := goodCopy_take (p := p.1) hjl
            rw [hno.out, Option.none_or] at hgt
            have hQ := iPieceRight_any copies[j].1 copies[j].2
            generalize copies[j] = q at *
            rw [show pieceR (q.1, q.2) = pieceR q from rfl] at hQ
            cases he : (q.1 == p.1)
            · rw [he, Bool.false_and, if_neg (by simp)] at hgt
              have HGT := Lib.hid hgt
              clear hgt hQ
              go_wp2
              go_roundw
              case rel => exact ⟨j + 1, by omega, by go_num, rfl, HGT.out, HX.out.alloc HX.out.size _⟩
              case measure => simp [intOf]; omega
            · rw [he, Bool.true_and] at hgt
              cases hqr : pieceR q
              · rw [hqr, if_neg (by simp)] at hgt
                rw [hqr] at hQ
                have HGT := Lib.hid hgt
                have HQ := Lib.hid hQ
                clear hgt hQ hqr
                go_wp2_with fail
                refine (HQ.out _ hfj).mono ?_
                rintro e w3 ⟨rfl, hb3⟩
                have HX3 := Lib.hid (Below_then HX.out (Below_of_alloc hb3) (Nat.le_refl _))
                clear hb3
                go_wp2
                go_roundw
                case rel => exact ⟨j + 1, by omega, by go_num, rfl, HGT.out, HX3.out⟩
                case measure => simp [intOf]; omega
              · rw [hqr, if_pos rfl] at hgt
                rw [hqr] at hQ
                have hr1 := repair1_some HP.out (goodCopy_prefix hgt)
                have hmt := HMT.out
                have hsu := HSUCC.out
                rw [hr1] at hmt hsu
                have HMT2 := Lib.hid hmt
                have HSU := Lib.hid hsu
                have HQ := Lib.hid hQ
                clear hgt hQ hqr hr1 hmt hsu
                go_wp2_with fail
                refine (HQ.out _ hfj).mono ?_
                rintro e w3 ⟨rfl, hb3⟩
                have hx0 : w3.cell? ⟨wr.heap.size, 0, none⟩ = some (.int .i64 q.1) := box_cell hb3 0 rfl
                have hx1 : w3.cell? ⟨wr.heap.size, 1, none⟩ = some (.string q.2) := box_cell hb3 1 rfl
                have HX3 := Lib.hid (Below_then HX.out (Below_of_alloc hb3) (Nat.le_refl _))
                clear hb3
                have HW3 := Lib.hid (HW2.out.below HX3.out)
                have hset := HW3.out.setEl (fun _ => rfl) (by omega) (i := k) (by rw [halfRep_len]; exact hlt) q
                rw [← HSU.out] at hset
                have HSET := Lib.hid hset
                obtain ⟨b3, o3, e, hy0, hy1⟩ := HW3.out.sl'.getP (k := k) (by rw [halfRep_len]; exact hlt)
                injection e with e; injection e with e1 e2
                subst e1 e2
                simp only [Nat.zero_add] at hy0 hy1
                have hz0 := HW3.out.free' (k * 2)
                have hz1 := HW3.out.free' (k * 2 + 1)
                have HB3 := Lib.hid (((Below_then HB2.out HX3.out (Nat.le_refl _)).setCell (p := ⟨g, k * 2, none⟩) HG.out (.int .i64 q.1)).setCell (p := ⟨g, k * 2 + 1, none⟩) HG.out (.string q.2))
                clear hset
                go_wp2
                go_roundw
                case rel => exact ⟨k + 1, M + 1, by omega, by go_num, rfl, by omega, by omega, by show _ = _; rw [HMT2.out, ← hM.out], HSET.out, HB3.out⟩
                case measure => simp [intOf]; omega
          · have hjj : j = copies.length := by omega
            subst hjj
            have hno2 := hno.out
            rw [List.take_of_length_le (Nat.le_refl _)] at hno2
            have hr1 := repair1_none HP.out hno2
            have hmt := HMT.out
            have hsa := HSAME.out
            rw [hr1] at hmt hsa
            have HMT2 := Lib.hid hmt
            have HSA := Lib.hid (hsa rfl)
            have HB3 := Lib.hid (Below_then HB2.out HX.out (Nat.le_refl _))
            have HW3 := Lib.hid (HW2.out.below HX.out)
            clear hno2 hr1 hmt hsa
            go_wp2
            go_roundw
            case rel => exact ⟨k + 1, M, by omega, by go_num, rfl, by omega, by omega, by show _ = _; rw [HMT2.out, ← hM.out]; omega, by rw [HSA.out]; exact HW3.out, HB3.out⟩
            case measure => simp [intOf]; omega
      · rw [hp] at hR
        have hr1 := repair1_right (copies := copies) hp
        have hmt := HMT.out
        have hsa := HSAME.out
        rw [hr1] at hmt hsa
        have HMT2 := Lib.hid hmt
        have HSA := Lib.hid (hsa rfl)
        have HR := Lib.hid hR
        clear hR hp hr1 hmt hsa
        go_wp2_with fail
        refine (HR.out _ hfk).mono ?_
        rintro e w2 ⟨rfl, hb2⟩
        have HW2 := Lib.hid (HW.out.below (Below_of_alloc hb2))
        have HB2 := Lib.hid (Below_then HB.out (Below_of_alloc hb2) (Nat.le_refl _))
        clear hb2
        go_wp2
        go_roundw
        case rel => exact ⟨k + 1, M, by omega, by go_num, rfl, by omega, by omega, by show _ = _; rw [HMT2.out, ← hM.out]; omega, by rw [HSA.out]; exact HW2.out, HB2.out⟩
        case measure => simp [intOf]; omega
    · go_wp2
      go_ret2
      have hkl : k = l.length := by omega
      subst hkl
      refine ⟨_, ?_, by have h := HW.out; rwa [halfRep_done (by omega)] at h, HB.out⟩
      have h := hM.out
      rw [List.take_of_length_le (Nat.le_refl _)] at h
      rw [← h]; rfl
end Go.Proofs.Ytbefbenihahdnaa
