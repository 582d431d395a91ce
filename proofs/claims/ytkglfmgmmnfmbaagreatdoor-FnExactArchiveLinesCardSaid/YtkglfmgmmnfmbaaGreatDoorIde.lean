/- slices.Delete of one entry of a row of the call's own; DropEntry of the program; walked. -/
import Derived.Test.YtkglfmgmmnfmbaaGreatDoorGb1
import Derived.Test.YtkglfmgmmnfmbaaGreatDoorGb8
import Derived.Test.YtkglfmgmmnfmbaaGreatDoorGa7
import Derived.Test.YtkglfmgmmnfmbaaGreatDoorGb2
set_option linter.unusedVariables false
namespace Go.Proofs.YtkglfmgmmnfmbaaGreatDoor
open Go.RowKit
/-- 'append' whose run is known, as one step of a region that draws. -/
theorem step_append_runE {ops : Array Oper} {o : Oper} {a : Act} {w : World} {K : Act → World → Prop} {Q : Exit → Act → World → Prop} {E : Prop}
    (hg : o.guard = none) (d x : Operand) (dT sT : TypeId) (hop : o.op = Op.call { callee := Callee.builtin Builtin.append, args := #[d, x], argTypes := #[dT, sT] })
    (v u : Value) (hd : a.eval d = v) (hx : a.eval x = u) {v' : Value} {w' : World} (hr : (Builtin.append_ #[dT, sT] o.type #[v, u]).run Tryz.prog w = .ok v' w') (hK : K (a.put o.dst v') w') :
    if Region.wanted o (yielded ops a.tmps) = true then Oper.wp Tryz.prog o a w K Q else E := by
  have hw : Region.wanted o (yielded ops a.tmps) = true := by simp [Region.wanted, hg]
  rw [if_pos hw]
  unfold Oper.wp
  simp [execOp, hop, resolve, invoke, builtin, hd, hx, hr, Result.andThen]
  exact hK
/-- 'clear' of the last elements of a row. -/
theorem run_clear_rowK (w : World) (t e ty : TypeId) (z : Value) (k : Nat) (ht : Tryz.prog.underlying t = some (.slice e)) (hv : ∀ w, (zeroValue e).run Tryz.prog w = .ok z w) (hz : z.cells.size = k) (h1 : ∀ v ∈ z.cells.toList, v.oneCell' = true)
    (g o n c : Nat) (hn : 0 < n) (cur : Array Value) (tt : TypeId) (hg : w.heap[g]? = some (.cells cur tt (0, 0))) (hfit : o + n * k ≤ cur.size) :
    ∃ N : List Value, N.length = cur.size ∧ N.take o = cur.toList.take o ∧ (Builtin.clear_ #[t] ty #[.slice (some ⟨g, o, none⟩) n c]).run Tryz.prog w = .ok (.tuple #[]) (w.setRow g N.toArray) := by
  have hl : (Builtin.zeroCells z.cells n).toList.length = n * k := by
    rw [Array.length_toList, size_zeroCells, hz]
  have hst := run_storeCells_at Tryz.prog g o tt (Builtin.zeroCells z.cells n).toList 0 cur w hg (by rw [hl]; omega) (by
    intro v hv'
    rw [Array.mem_toList_iff] at hv'
    unfold Builtin.zeroCells at hv'
    obtain ⟨i, hi, rfl⟩ := Array.mem_map.1 hv'
    have hi2 : i < n * z.cells.size := by simpa using hi
    have hp : 0 < z.cells.size := by
      rcases Nat.eq_zero_or_pos z.cells.size with h | h
      · rw [h] at hi2; simp at hi2
      · exact h
    apply h1
    have hlt := Nat.mod_lt i hp
    rw [Array.mem_toList_iff, getElem!_pos z.cells (i % z.cells.size) hlt]
    exact Array.getElem_mem hlt)
  simp only [Nat.add_zero] at hst
  refine ⟨cur.toList.take o ++ (Builtin.zeroCells z.cells n).toList ++ cur.toList.drop (o + (Builtin.zeroCells z.cells n).toList.length), ?_, ?_, ?_⟩
  · rw [List.length_append, List.length_append, hl, List.length_take, List.length_drop, Array.length_toList]; omega
  · rw [List.append_assoc, List.take_append_of_le_length (by rw [List.length_take, Array.length_toList]; omega), List.take_take, Nat.min_self]
  · obtain ⟨m, rfl⟩ : ∃ m, n = m + 1 := ⟨n - 1, by omega⟩
    simp [Builtin.clear_, run_underlying ht, hv, hst]
theorem del_row {α : Type} {L C S N1 : List α} {a b : Nat} (hC : L.take b = C) (hb : b ≤ L.length) (hab : a + 2 ≤ b) (hS : S = C.drop (a + 2))
    (h1 : N1 = L.take a ++ S ++ L.drop (a + S.length)) : N1.length = L.length ∧ N1.take (b - 2) = C.take a ++ C.drop (a + 2) := by
  have hCl : C.length = b := by rw [← hC, List.length_take]; omega
  have hSl : S.length = b - (a + 2) := by rw [hS, List.length_drop, hCl]
  have hLa : L.take a = C.take a := by rw [← hC, List.take_take]; congr 1; omega
  refine ⟨by rw [h1]; simp; omega, ?_⟩
  rw [h1, hLa, ← hS]
  exact List.take_left' (by rw [List.length_append, List.length_take, hCl, hSl]; omega)
set_option maxHeartbeats 4000000 in
set_option maxRecDepth 100000 in
theorem DeleteEn_any (base : Nat) (A : Option Addr) (c : Nat) (l : List En) (i : Nat) (w : World) (hbase : base ≤ w.heap.size) (hown : Own w base 131 2 encE (.slice A l.length c) l) (hi : i < l.length) (hl : l.length ≤ 16777216) :
    Calls Tryz.prog 144 #[.slice A l.length c, .int .i64 i, .int .i64 ((i : Int) + 1)] w (InsResE base (l.take i ++ l.drop (i + 1)) w) := by
  obtain ⟨i0, hi0, hz0, hz1, hz2⟩ := info_parts en_info
  rcases hown.2 with ⟨hv2, hn⟩ | ⟨g, cap, cur, hv2, hg, hh, hnc, hcm, hsz, ht⟩
  · omega
  injection hv2 with e1 e2 e3
  subst e1 e3
  obtain ⟨C, hC⟩ : ∃ C, C = flat encE l := ⟨_, rfl⟩
  have hCl : C.length = l.length * 2 := by rw [hC]; exact flat_length (enc := encE) (size := 2) (fun _ => rfl) l
  have hflat := flat_take (enc := encE) (k := 2) (fun _ => rfl) l i (by omega)
  have hflat2 := flat_take (enc := encE) (k := 2) (fun _ => rfl) l (i + 1) (by omega)
  rw [← hC] at ht hflat hflat2
  have hLl : cur.toList.length = c * 2 := by rw [Array.length_toList]; exact hsz
  obtain ⟨S, hS⟩ : ∃ S, S = C.drop (i * 2 + 2) := ⟨_, rfl⟩
  have hSl : S.length = (l.length - (i + 1)) * 2 := by rw [hS, List.length_drop, hCl]; omega
  obtain ⟨N1, hN1⟩ : ∃ N, N = cur.toList.take (i * 2) ++ S ++ cur.toList.drop (i * 2 + S.length) := ⟨_, rfl⟩
  obtain ⟨l1, tk⟩ := del_row (a := i * 2) (b := l.length * 2) ht (by omega) (by omega) hS hN1
  have hcell : ∀ j u, C[j]? = some u → w.cell? ⟨g, j, none⟩ = some u := fun j u hu => by
    rw [cell_of_row _ _ _ _ _ (0, 0) hh, ← Array.getElem?_toList]
    rw [← ht, List.getElem?_take] at hu
    split at hu
    · exact hu
    · cases hu
  have hmem : ∀ u ∈ S, u.oneCell' = true := fun u hu => by
    rw [hS, hC] at hu
    unfold flat at hu
    obtain ⟨y, _, hy⟩ := List.mem_flatMap.1 (List.mem_of_mem_drop hu)
    exact oneE y u hy
  obtain ⟨ad, had, hsrc⟩ : ∃ ad : Addr, (if c = i + 1 then some (⟨g, 0, none⟩ : Addr) else some ⟨g, (i + 1) * 2, none⟩) = some ad ∧ ∀ j u, S[j]? = some u → w.drew.cell? (ad.add j) = some u := by
    by_cases h : c = i + 1
    · refine ⟨⟨g, 0, none⟩, by simp [h], fun j u hu => ?_⟩
      have h0 : S.length = 0 := by rw [hSl]; omega
      rw [List.length_eq_zero_iff.1 h0] at hu
      simp at hu
    · refine ⟨⟨g, (i + 1) * 2, none⟩, by simp [h], fun j u hu => ?_⟩
      rw [Addr.add_lit]
      rw [hS, List.getElem?_drop] at hu
      have := hcell _ u hu
      rw [show (i + 1) * 2 + j = i * 2 + 2 + j by omega]
      exact this
  have hap : ∀ ty, (Builtin.append_ #[87, 87] ty #[.slice (some ⟨g, 0, none⟩) i c, .slice (some ad) (l.length - (i + 1)) (c - (i + 1))]).run Tryz.prog w.drew = .ok (.slice (some ⟨g, 0, none⟩) (i + (l.length - (i + 1))) c) (w.drew.setRow g N1.toArray) := fun ty => by
    have := run_append_room (P := Tryz.prog) w.drew 87 ty 131 i0 Tryz.underlying87 hi0 g i c cur hh ad (l.length - (i + 1)) (c - (i + 1)) S (by rw [hz1]; exact hSl) hsrc hmem (by omega) (by rw [hz1, hSl]; omega)
    rw [hz1, ← hN1] at this
    exact this
  have hh1 : (w.drew.setRow g N1.toArray).heap[g]? = some (.cells N1.toArray 131 (0, 0)) := setRow_heap w.drew g _ _ _ _ hh
  obtain ⟨N2, l2, tk2, hcl⟩ : ∃ N2 : List Value, N2.length = c * 2 ∧ N2.take ((l.length - 1) * 2) = N1.take ((l.length - 1) * 2) ∧ ∀ ty, (Builtin.clear_ #[87] ty #[.slice (some ⟨g, (i + (l.length - (i + 1))) * 2, none⟩) (l.length - (i + (l.length - (i + 1)))) (c - (i + (l.length - (i + 1))))]).run Tryz.prog (w.drew.setRow g N1.toArray) = .ok (.tuple #[]) ((w.drew.setRow g N1.toArray).setRow g N2.toArray) := by
    obtain ⟨N2, h1, h2, h3⟩ := run_clear_rowK (w.drew.setRow g N1.toArray) 87 131 0 (.agg #[.string ⟨#[]⟩, .int .i64 0]) 2 Tryz.underlying87 (fun w => by simp [zeroValue, typeInfo, hi0, hz0]) rfl (by intro v hv; simp [Value.cells] at hv; rcases hv with rfl | rfl <;> rfl)
      g ((i + (l.length - (i + 1))) * 2) (l.length - (i + (l.length - (i + 1)))) (c - (i + (l.length - (i + 1)))) (by omega) N1.toArray 131 hh1 (by simp [l1, hLl]; omega)
    have e : i + (l.length - (i + 1)) = l.length - 1 := by omega
    rw [e] at h2
    refine ⟨N2, by rw [h1]; simp [l1, hLl], h2, fun ty => ?_⟩
    exact h3
  have hfin : Own ((w.drew.setRow g N1.toArray).setRow g N2.toArray) base 131 2 encE (.slice (some ⟨g, 0, none⟩) (i + (l.length - (i + 1))) c) (l.take i ++ l.drop (i + 1)) := by
    have hll : (l.take i ++ l.drop (i + 1)).length = i + (l.length - (i + 1)) := by simp; omega
    refine ⟨flat_length (enc := encE) (size := 2) (fun _ => rfl) _, .inr ⟨g, c, N2.toArray, by rw [hll], hg, setRow_heap _ g _ _ _ _ hh1, by rw [hll]; omega, hcm, by simp [l2], ?_⟩⟩
    have e : flat encE (l.take i ++ l.drop (i + 1)) = flat encE (l.take i) ++ flat encE (l.drop (i + 1)) := flat_append _ _ _
    rw [e, hflat.1, hflat2.2, hll, show (i + (l.length - (i + 1))) * 2 = (l.length - 1) * 2 by omega]
    show N2.take _ = _
    rw [tk2, show (l.length - 1) * 2 = l.length * 2 - 2 by omega, tk, show (i + 1) * 2 = i * 2 + 2 by omega]
  have mixed : Tryz.prog.follows .mixedOrders = true := by kernel_rfl
  have HFIN := Lib.hid hfin
  have HBEL := Lib.hid (below_setRow (below_setRow ((Below.refl base w).drew) hg N1.toArray) hg N2.toArray)
  have HAP := Lib.hid hap
  have HCL := Lib.hid hcl
  clear hfin hap hcl hcell tk tk2 l1 l2 hN1 hSl hS hLl hflat hflat2 hCl hC hsrc hmem hh1
  unfold maxLen at hcm
  unfold InsResE
  clear hh hown ht
  have hne : ¬ ((i : Int) = (i : Int) + 1) := by omega
  have hin : i ≤ l.length := by omega
  have hin2 : (i : Int) + 1 ≤ (l.length : Int) := by omega
  have htn : ((i : Int) + 1).toNat = i + 1 := by omega
  have hb1 : (0 : Int) ≤ (i : Int) + 1 := by omega
  have hic : i ≤ c := by omega
  have hjc : i + 1 ≤ c := by omega
  have hlc : l.length ≤ c := by omega
  have hkl : i + (l.length - (i + 1)) ≤ l.length := by omega
  go_enter Tryz.func144, Tryz.ntmps144
  have hne2 : ¬ (c = i + (l.length - (i + 1))) := by omega
  have hcast : ((i + (l.length - (i + 1)) : Nat) : Int) ≤ (l.length : Int) := by omega
  go_wp2_with fail
  go_region_law_o (refine step_append_runE rfl (.tmp 22) (.tmp 25) 87 87 rfl (.slice (some ⟨g, 0, none⟩) i c) (.slice (some ad) (l.length - (i + 1)) (c - (i + 1))) (by simp [Act.eval, Act.put]) (by simp [Act.eval, Act.put]) (HAP.out _) ?_)
  have hcl := HCL.out
  go_wp2
  go_ret
  exact ⟨_, rfl, HFIN.out, HBEL.out⟩
set_option maxHeartbeats 4000000 in
set_option maxRecDepth 100000 in
theorem iDropEntry_any (A : Option Addr) (c : Nat) (l : List En) (nm : ByteArray) (w : World) (hs : Sl w encE 2 A l) (hcz : A = none → c = 0) (hv : entsV l = true) :
    Calls Tryz.prog 108 #[.slice A l.length c, .string nm] w (EnRes (dropE l (tx nm)) w) := by
  have hl3 := entsV_len hv
  have HS := Lib.hid hs
  have hEV := fun w h => iEntriesValid_any A c l w h (by omega) (fitE_valid hv)
  rw [hv] at hEV
  have HEV := Lib.hid hEV
  have hCL := fun w h => CloneEn_any A c l w h hcz (by omega)
  unfold OwnRes at hCL
  have HCL := Lib.hid hCL
  have hFE := fun X d w h => findEntry_any X d l nm w h (by omega) (entsV_sorted hv)
  unfold FeRes at hFE
  have hPY : hereE l (tx nm) = true → dropE l (tx nm) = (l.take (posE l (tx nm)) ++ l.drop (posE l (tx nm) + 1), true) := fun h => by unfold dropE; rw [hv, if_pos rfl, if_pos h]
  have hPN : hereE l (tx nm) = false → dropE l (tx nm) = (l, false) := fun h => by unfold dropE; rw [hv, if_pos rfl, if_neg (by rw [h]; simp)]
  have hlt : hereE l (tx nm) = true → posE l (tx nm) < l.length := fun h => (hereE_iff.1 h).1
  have HPY := Lib.hid hPY
  have HPN := Lib.hid hPN
  have HLT := Lib.hid hlt
  clear hs hEV hCL hPY hPN hlt hcz hv
  generalize dropE l (tx nm) = R at *
  generalize posE l (tx nm) = k at *
  cases hh : hereE l (tx nm)
  · rw [hh] at hFE
    have HFE := Lib.hid hFE
    have HR := Lib.hid (HPN.out hh)
    clear hFE hh
    go_enter Tryz.func108, Tryz.ntmps108
    go_wp2_with fail
    refine (HEV.out _ HS.out).mono ?_
    rintro e w1 ⟨rfl, hb1⟩
    have HB1 := Lib.hid hb1
    have HS1 := Lib.hid (HS.out.below hb1)
    clear hb1
    go_wp2_with fail
    refine (HCL.out _ HS1.out).mono ?_
    rintro e w2 ⟨v2, rfl, hown2, hb2⟩
    obtain ⟨X, d, rfl, hle2, hsx2, _⟩ := hown2.sl
    have HSX := Lib.hid hsx2
    have HW2 := Lib.hid hown2
    have HB2 := Lib.hid (Below_then HB1.out hb2 (Nat.le_refl _))
    clear hown2 hb2 hsx2
    go_wp2_with fail
    refine (HFE.out X d _ HSX.out).mono ?_
    rintro e w3 ⟨rfl, hb3⟩
    have HW3 := Lib.hid ((HW2.out.below hb3).mono HB1.out.size)
    have HB3 := Lib.hid (Below_then HB2.out hb3 (Nat.le_refl _))
    clear hb3
    go_wp2
    go_ret2
    rw [HR.out]
    exact ⟨_, rfl, HW3.out, HB3.out⟩
  · rw [hh] at hFE
    have HFE := Lib.hid hFE
    have HR := Lib.hid (HPY.out hh)
    have hkl := HLT.out hh
    clear hFE hh
    have hw1 : IntKind.i64.wrap ((k : Int) + 1) = (k : Int) + 1 := IntWalk.i64_in _ (by omega)
    go_enter Tryz.func108, Tryz.ntmps108
    go_wp2_with fail
    refine (HEV.out _ HS.out).mono ?_
    rintro e w1 ⟨rfl, hb1⟩
    have HB1 := Lib.hid hb1
    have HS1 := Lib.hid (HS.out.below hb1)
    clear hb1
    go_wp2_with fail
    refine (HCL.out _ HS1.out).mono ?_
    rintro e w2 ⟨v2, rfl, hown2, hb2⟩
    obtain ⟨X, d, rfl, hle2, hsx2, _⟩ := hown2.sl
    have HSX := Lib.hid hsx2
    have HW2 := Lib.hid hown2
    have HB2 := Lib.hid (Below_then HB1.out hb2 (Nat.le_refl _))
    have hz2 := hb2.size
    clear hown2 hb2 hsx2
    go_wp2_with fail
    refine (HFE.out X d _ HSX.out).mono ?_
    rintro e w3 ⟨rfl, hb3⟩
    have HW3 := Lib.hid (HW2.out.below hb3)
    have HB3 := Lib.hid (Below_then HB2.out hb3 (Nat.le_refl _))
    have HDE := Lib.hid (DeleteEn_any w1.heap.size X d l k w3 (Nat.le_trans hz2 hb3.size) HW3.out hkl (by omega))
    clear hb3
    go_wp2_with fail
    refine HDE.out.mono ?_
    rintro e w4 ⟨v4, rfl, hown4, hb4⟩
    have HW4 := Lib.hid (hown4.mono HB1.out.size)
    have HB4 := Lib.hid (HB3.out.trans (hb4.mono HB1.out.size))
    clear hown4 hb4
    go_wp2
    go_ret2
    rw [HR.out]
    exact ⟨_, rfl, HW4.out, HB4.out⟩
end Go.Proofs.YtkglfmgmmnfmbaaGreatDoor
