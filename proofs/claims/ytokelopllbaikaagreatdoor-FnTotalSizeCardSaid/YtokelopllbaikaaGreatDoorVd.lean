/- l19Has, ReachOf, SweepStore of the reference, walked. -/
import Derived.Test.YtokelopllbaikaaGreatDoorVa
import Derived.Test.YtokelopllbaikaaGreatDoorGb7
import Derived.Test.YtokelopllbaikaaGreatDoorGb2
import Derived.Test.YtokelopllbaikaaGreatDoorPs
import Derived.Test.YtokelopllbaikaaGreatDoorSto
import Derived.Test.YtokelopllbaikaaGreatDoorGa5
import Derived.Test.YtokelopllbaikaaGreatDoorGa6
import Derived.Test.YtokelopllbaikaaGreatDoorGa8
set_option linter.unusedVariables false
namespace Go.Proofs.YtokelopllbaikaaGreatDoor
open Go.RowKit
def encBo (b : Bool) : List Value := [.bool b]
theorem bo_info : (Tryz.prog.info? 4).map (fun i => (i.zero, i.size, i.bytes)) = some (some (.bool false), 1, 1) := by kernel_rfl
theorem Sl.getT1 {w : World} {A : Option Addr} {l : List Bool} {k : Nat} (h : Sl w encBo 1 A l) (hk : k < l.length) :
    ∃ b o, A = some ⟨b, o, none⟩ ∧ w.cell? ⟨b, o + k, none⟩ = some (.bool l[k]) := by
  obtain ⟨b, o, e, hc⟩ := h.get (fun _ => rfl) hk
  exact ⟨b, o, e, by simpa using hc 0 _ (by omega) rfl⟩
theorem Own.setLowR {α : Type} {enc : α → List Value} {w : World} {base size : Nat} {E : TypeId} {v : Value} {l : List α} (h : Own w base E size enc v l) {p : Addr} (hp : p.block < base) (u : Value) : Own (w.setCell p u) base E size enc v l :=
  h.only (g := p.block) ⟨rfl, rfl, rfl, by simp [World.setCell], fun k hk hne => Below.heap_setCell _ _ _ _ (by rintro rfl; exact hne rfl)⟩ hp
section
variable {ops : Array Oper} {rest : List Oper} {o : Oper} {a : Act} {Q : Exit → Act → World → Prop} {w0 wr : World} {v : Value}
theorem app_int3 {l : List Int} {y : Int} {s x : Operand} (hgd : o.guard = none) (ho : o.op = .call { callee := .builtin .append, args := #[s, x], argTypes := #[79, 79] })
    (hs : a.eval s = v) (hx : a.eval x = .slice (some ⟨wr.heap.size, 0, none⟩) 1 1)
    (hown : Own wr w0.heap.size 3 1 encI v l) (hb : Below w0.heap.size w0 wr) (hn : l.length ≤ 16777216)
    (h : ∀ v' w', Own w' w0.heap.size 3 1 encI v' (l ++ [y]) → Below w0.heap.size w0 w' → Grew v wr w' → Kin v wr v' → wpList Tryz.prog ops Q rest (a.put o.dst v') w') :
    wpList Tryz.prog ops Q (o :: rest) a (wr.alloc (.cells #[.int .i64 y] 3)) := by
  obtain ⟨i0, hi0, hz0, hz1, hz2⟩ := info_parts int_info
  exact wpList_app3 Tryz.underlying79 hi0 hz0 hz1 hz2 rfl (by decide) (by decide) hgd s x ho hs hx hown hb (Nat.le_refl _) hb.size hn y _ rfl rfl (by intro u hu; simp [encI] at hu; subst hu; rfl) h
end
set_option maxHeartbeats 1000000 in
set_option maxRecDepth 100000 in
theorem sl19Has_any (A : Option Addr) (c : Nat) (l : List Int) (q : Int) (w : World) (hs : Sl w encI 1 A l) (hl : l.length ≤ 16777216) :
    Calls Tryz.prog 83 #[.slice A l.length c, .int .i64 q] w fun e w' => e = .returned (.bool (l.contains q)) ∧ w = w' := by
  have HS := Lib.hid hs
  generalize hB : l.contains q = B
  have HB := Lib.hid hB
  clear hs hB
  go_enter Tryz.func83, Tryz.ntmps83
  go_wp2_with fail
  go_loop [5] (fun i => ∃ (k : Nat), k ≤ l.length ∧ i = .int .i64 k ∧ Hid (∀ j (h : j < l.length), j < k → l[j] ≠ q)) (fun i => l.length - (intOf i).toNat)
  case atStart => exact ⟨0, Nat.zero_le _, rfl, fun j h h2 => by omega⟩
  case round =>
    obtain ⟨k, hk, rfl, HH⟩ := hrel
    by_cases hlt : k < l.length
    · obtain ⟨b, o, rfl, hc0⟩ := HS.out.getI hlt
      have HF := Lib.hid (fun (he : l[k] = q) => show l.contains q = true by rw [List.contains_iff_mem]; exact he ▸ List.getElem_mem hlt)
      have HN := Lib.hid (fun (hne : l[k] ≠ q) => show ∀ j (h : j < l.length), j < k + 1 → l[j] ≠ q from fun j h h2 => by
        by_cases e : j = k
        · subst e; exact hne
        · exact HH.out j h (by omega))
      generalize l[k] = a at *
      by_cases he : a = q
      · have HE := Lib.hid (show B = true by rw [← HB.out]; exact HF.out he)
        clear HB HF HN
        subst he
        go_wp2
        go_ret
        exact ⟨ret_bool HE.out.symm, rfl⟩
      · have HE := Lib.hid (HN.out he)
        have he' : (a == q) = false := by rw [beq_eq_false_iff_ne]; exact he
        go_wp2
        go_round
        case rel => exact ⟨k + 1, by omega, by go_num, HE.out⟩
        case measure => first | (simp [intOf]; done) | (simp [intOf]; omega)
    · have HE := Lib.hid (show B = false by
        rw [← HB.out, Bool.eq_false_iff, ne_eq, List.contains_iff_mem]
        intro hm
        obtain ⟨j, hj, e⟩ := List.getElem_of_mem hm
        exact HH.out j hj (by omega) e)
      go_wp2
      go_ret
      exact ⟨ret_bool HE.out.symm, rfl⟩
/-! ### marks, one after the other -/
def mkP (s : List Pc) (q : Int) (inn : List Bool) (i : Nat) : List Bool := (mark1 s q inn).take i ++ inn.drop i
theorem mkP_zero (s : List Pc) (q : Int) (inn : List Bool) : mkP s q inn 0 = inn := by unfold mkP; simp
theorem mkP_len {s : List Pc} {q : Int} {inn : List Bool} (h : inn.length = s.length) {i : Nat} (hi : i ≤ s.length) : (mkP s q inn i).length = s.length := by
  unfold mkP; rw [List.length_append, List.length_take, mark1_len h, List.length_drop]; omega
theorem mkP_all {s : List Pc} {q : Int} {inn : List Bool} (h : inn.length = s.length) : mkP s q inn s.length = mark1 s q inn := by
  unfold mkP
  rw [List.take_of_length_le (by rw [mark1_len h]; omega), List.drop_of_length_le (by omega), List.append_nil]
theorem mkP_get {s : List Pc} {q : Int} {inn : List Bool} (h : inn.length = s.length) {i j : Nat} (hi : i ≤ s.length) : (mkP s q inn i)[j]? = if j < i then (mark1 s q inn)[j]? else inn[j]? := by
  have hl : ((mark1 s q inn).take i).length = i := by rw [List.length_take, mark1_len h]; omega
  unfold mkP
  by_cases hj : j < i
  · rw [if_pos hj, List.getElem?_append_left (by omega), List.getElem?_take_of_lt hj]
  · rw [if_neg hj, List.getElem?_append_right (by omega), hl, List.getElem?_drop]; congr 1; omega
theorem mkP_at {s : List Pc} {q : Int} {inn : List Bool} (h : inn.length = s.length) {i : Nat} (hi : i < s.length) (hp : i < (mkP s q inn i).length) : (mkP s q inn i)[i] = inn[i]'(by omega) := by
  have h1 := mkP_get (q := q) h (i := i) (j := i) (by omega)
  rw [if_neg (by omega), List.getElem?_eq_getElem hp, List.getElem?_eq_getElem (by omega)] at h1
  exact Option.some.inj h1
theorem mkP_next {s : List Pc} {q : Int} {inn : List Bool} (h : inn.length = s.length) {i : Nat} (hi : i < s.length) : (mkP s q inn i).set i (inn[i]'(by omega) || decide (s[i].1 = q)) = mkP s q inn (i + 1) := by
  have hm := mark1_len (q := q) h
  have hv : (mark1 s q inn)[i]? = some (inn[i]'(by omega) || decide (s[i].1 = q)) := by
    have h1 := mark1_at (q := q) h hi
    rw [List.getD_eq_getElem?_getD, List.getElem?_eq_getElem (by omega), List.getD_eq_getElem?_getD, List.getElem?_eq_getElem (by omega)] at h1
    rw [List.getElem?_eq_getElem (by omega)]
    exact congrArg some h1
  have hl := mkP_len (q := q) h (i := i) (by omega)
  refine List.ext_getElem? fun j => ?_
  rw [List.getElem?_set, mkP_get h (by omega), mkP_get h (by omega)]
  by_cases e : i = j
  · subst e
    rw [if_pos rfl, if_pos (by omega), if_pos (by omega), hv]
  · rw [if_neg e]
    by_cases hj : j < i
    · rw [if_pos hj, if_pos (by omega)]
    · rw [if_neg hj, if_neg (by omega)]
theorem markL_next {s : List Pc} {qs : List Int} {inn : List Bool} {j : Nat} (hj : j < qs.length) : markL s (qs.take (j + 1)) inn = mark1 s qs[j] (markL s (qs.take j) inn) := by
  unfold markL
  rw [List.take_succ_eq_append_getElem hj, List.foldl_append]; rfl
/-! ### the rounds' states -/
theorem stepK_no {s : List Pc} {inn : List Bool} {k : Nat} (h : inn.getD k false = false) : stepK s inn k = inn := by unfold stepK; rw [h]; rfl
theorem stepK_yes {s : List Pc} {inn : List Bool} {k : Nat} (h : inn.getD k false = true) : stepK s inn k = markL s (namesK s k) inn := by unfold stepK; rw [if_pos h]
theorem getB_at {l : List Bool} {k : Nat} (h : k < l.length) : l.getD k false = l[k] := by rw [List.getD_eq_getElem?_getD, List.getElem?_eq_getElem h]; rfl
theorem namesK_text {s : List Pc} {k : Nat} (h : k < s.length) : namesK s k = ((readF (bs s[k].2)).getD []).map (·.2) := by
  unfold namesK; rw [List.getElem?_eq_getElem h]; rfl
theorem reachL_next {s : List Pc} {inn : List Bool} {k : Nat} : reachL s inn (k + 1) = reachL s inn k ++ if inn.getD k false then [(s.getD k pc0).1] else [] := by
  unfold reachL
  rw [List.range_succ, List.filter_append, List.map_append]
  congr 1
  cases h : inn.getD k false <;> (rw [List.filter_cons]; simp only [h]; rfl)
theorem reachL_len (s : List Pc) (inn : List Bool) (k : Nat) : (reachL s inn k).length ≤ k := by
  unfold reachL
  rw [List.length_map]
  exact Nat.le_trans (List.length_filter_le _ _) (by simp)
theorem initR_take {s : List Pc} {roots : List Int} {k : Nat} (h : k < s.length) : flat encBo ((initR s roots).take (k + 1)) = flat encBo ((initR s roots).take k) ++ [.bool (roots.contains s[k].1)] := by
  have h2 : k < (initR s roots).length := by unfold initR; rw [List.length_map]; exact h
  have h3 : (initR s roots)[k] = roots.contains s[k].1 := by simp [initR]
  rw [List.take_succ_eq_append_getElem h2, flat_snoc, h3]; rfl
theorem flatT_len (l : List Bool) : (flat encBo l).length = l.length := by rw [flat_length (size := 1) (fun _ => rfl), Nat.mul_one]
theorem Own.setB {w : World} {base : Nat} {E : TypeId} {g n cap : Nat} {l : List Bool} (h : Own w base E 1 encBo (.slice (some ⟨g, 0, none⟩) n cap) l) {i : Nat} (hi : i < l.length) (b : Bool) :
    Own (w.setCell ⟨g, i, none⟩ (.bool b)) base E 1 encBo (.slice (some ⟨g, 0, none⟩) n cap) (l.set i b) := by
  have := h.setEl (fun _ => rfl) (by omega) hi b
  rwa [Nat.mul_one] at this
theorem markL_len' {s : List Pc} {qs : List Int} {inn : List Bool} (h : inn.length = s.length) : (markL s qs inn).length = s.length := markL_len qs inn h
theorem markL_true {s : List Pc} {qs : List Int} {inn : List Bool} (h : inn.length = s.length) {k : Nat} (hk : inn.getD k false = true) : (markL s qs inn).getD k false = true := markL_le qs inn h k hk
/-- What is known of the slots of ReachOf's region 20, as far as they are set. -/
structure ReJ (wr : World) (p : Addr) (V : Nat → Value) (B : Bool) (d : Nat → Bool) (v0 v1 v2 v3 v4 v5 v6 v7 v8 v9 v10 v11 v12 v13 v14 v15 v16 v17 v18 v19 : Value) (W : World) : Prop where
  o6 : d 6 = true → d 5 = true
  o17 : d 17 = true → d 16 = true ∧ d 11 = true
  o18 : d 18 = true → d 6 = true ∧ d 17 = true
  o20 : d 20 = true → d 18 = true ∧ d 19 = true
  c0 : d 0 = true → v0 = V 0
  c1 : d 1 = true → v1 = V 1
  c2 : d 2 = true → v2 = V 2
  c3 : d 3 = true → v3 = V 3
  c4 : d 4 = true → v4 = V 4
  c5 : d 5 = true → v5 = V 5
  c6 : d 6 = true → v6 = V 6
  c7 : d 7 = true → v7 = V 7
  c8 : d 8 = true → v8 = V 8
  c9 : d 9 = true → v9 = V 9
  c10 : d 10 = true → v10 = V 10
  c11 : d 11 = true → v11 = V 11
  c12 : d 12 = true → v12 = V 12
  c13 : d 13 = true → v13 = V 13
  c14 : d 14 = true → v14 = V 14
  c15 : d 15 = true → v15 = V 15
  c16 : d 16 = true → v16 = V 16
  c17 : d 17 = true → v17 = V 17
  c18 : d 18 = true → v18 = V 18
  c19 : d 19 = true → v19 = V 19
  wn : d 20 = false → W = wr.drew
  ws : d 20 = true → W = wr.drew.setCell p (.bool B)
def reV (A0 A1 A2 A3 A4 A5 A6 A7 A8 A9 A10 A11 A12 A13 A14 A15 A16 A17 A18 A19 : Value) : Nat → Value
  | 0 => A0
  | 1 => A1
  | 2 => A2
  | 3 => A3
  | 4 => A4
  | 5 => A5
  | 6 => A6
  | 7 => A7
  | 8 => A8
  | 9 => A9
  | 10 => A10
  | 11 => A11
  | 12 => A12
  | 13 => A13
  | 14 => A14
  | 15 => A15
  | 16 => A16
  | 17 => A17
  | 18 => A18
  | 19 => A19
  | _ => undef
set_option maxHeartbeats 4000000 in
set_option maxRecDepth 100000 in
theorem sReachOf_any (A RA : Option Addr) (c rc : Nat) (l : List Pc) (roots : List Int) (w : World) (hs : Sl w encP 2 A l) (hl : l.length ≤ 16777216) (hf : FitP l) (hr : Sl w encI 1 RA roots) (hrl : roots.length ≤ 16777216) :
    Calls Tryz.prog 82 #[.slice A l.length c, .slice RA roots.length rc] w (OwnRes 3 1 encI (if storeV l then reachL l (reachR l roots) l.length else []) w) := by
  have HS := Lib.hid hs
  have HRT := Lib.hid hr
  have hSV := fun w h => sStoreValid_any A c l w h hl hf
  have HO0 := Lib.hid (Own.made (w := w) (enc := encI) (E := 3) (size := 1) (Nat.le_refl w.heap.size))
  have HB0 := Lib.hid ((Below.refl w.heap.size w).alloc (Nat.le_refl _) (.cells #[] 3))
  clear hs hr
  cases hv : storeV l
  · rw [hv] at hSV
    have HSV := Lib.hid hSV
    rw [if_neg (by simp)]
    clear hSV hv
    go_enter Tryz.func82, Tryz.ntmps82
    go_wp2_with fail
    refine (HSV.out _ (HS.out.alloc _)).mono ?_
    rintro e w1 ⟨rfl, hb⟩
    have HB := Lib.hid (Below_of_alloc hb)
    have HO := Lib.hid (HO0.out.below hb)
    clear hb
    go_wp2
    go_ret
    exact ⟨_, rfl, HO.out, HB.out⟩
  · rw [hv] at hSV
    have HSV := Lib.hid hSV
    have hl40 := storeV_len hv
    have HV := Lib.hid hv
    rw [if_pos rfl]
    obtain ⟨i0, hi0, hz0, hz1, hz2⟩ := info_parts bo_info
    have hmk := make_row (P := Tryz.prog) 123 4 i0 _ Tryz.underlying123 hi0 hz0 l.length (by omega) (by omega)
    rw [hz1] at hmk
    have hfl := fun W : World => Filled.made W (Value.bool false).cells (l.length * 1) 4
    have HFL := Lib.hid hfl
    have HLI := Lib.hid (show (initR l roots).length = l.length by unfold initR; rw [List.length_map])
    have HLA := Lib.hid (fun n => afterR_len l roots n)
    have HREACH := Lib.hid (show reachR l roots = afterR l roots l.length from rfl)
    clear hSV hv hfl hi0 hz0 hz1 hz2
    generalize madeCells (Value.bool false).cells (l.length * 1) = M at *
    go_enter Tryz.func82, Tryz.ntmps82
    go_wp2_with fail
    refine (HSV.out _ (HS.out.alloc _)).mono ?_
    rintro e w1 ⟨rfl, hb⟩
    have HB := Lib.hid (Below_of_alloc hb)
    have HO := Lib.hid (HO0.out.below hb)
    clear hb
    go_wp2
    clear hmk
    have HFM := Lib.hid (HFL.out w1)
    have HB1 := Lib.hid (HB.out.alloc HB.out.size (.cells M 4))
    have HO1 := Lib.hid (HO.out.alloc (.cells M 4))
    clear HFL
    have HBW := HB
    have hgw := Lib.hid HB.out.size
    have hgw2 := Lib.hid (show w.heap.size < w1.heap.size from (HO.out.blk _ rfl).2)
    have HBW2 := Lib.hid ((Below.refl w1.heap.size w1).alloc (Nat.le_refl _) (.cells M 4))
    generalize w1.alloc (.cells M 4) = w2 at *
    generalize hge : w1.heap.size = g at *
    have HGE := Lib.hid hge
    clear hge
    have HBG := Lib.hid (show Below g w1 w2 from HBW2.out)
    go_loopw [7] (fun vr wr => ∃ (rd : Nat), rd ≤ l.length + 1 ∧ vr = .int .i64 rd ∧ Hid ((rd = 0 → Filled wr g (l.length * 1) 4 []) ∧ ∀ m, rd = m + 1 → Own wr g 4 1 encBo (.slice (some ⟨g, 0, none⟩) l.length l.length) (afterR l roots m)) ∧ Hid (Below g w1 wr)) (fun vr _ => l.length + 1 - (intOf vr).toNat)
    case atStart => exact ⟨0, Nat.zero_le _, rfl, ⟨fun _ => HFM.out, fun m h => by omega⟩, HBG.out⟩
    case round =>
      obtain ⟨rd, hrd, rfl, HF, HBR⟩ := hrel
      by_cases hle : rd ≤ l.length
      · have hle' : (rd : Int) ≤ (l.length : Int) := by omega
        by_cases h0 : rd = 0
        · subst h0
          have HF0 := Lib.hid (show Filled wr g (l.length * 1) 4 (flat encBo ((initR l roots).take 0)) from HF.out.1 rfl)
          go_wp2_with fail
          go_loopw [8] (fun vk wk => ∃ (k : Nat), k ≤ l.length ∧ vk = .int .i64 k ∧ Hid (Filled wk g (l.length * 1) 4 (flat encBo ((initR l roots).take k))) ∧ Hid (Below g w1 wk)) (fun vk _ => l.length - (intOf vk).toNat)
          case atStart => exact ⟨0, Nat.zero_le _, rfl, HF0.out, HBR.out⟩
          case round =>
            obtain ⟨k, hk, rfl, HFK, HBK⟩ := hrel
            by_cases hlt : k < l.length
            · have hlt' : (k : Int) < (l.length : Int) := by omega
              have HBA := Lib.hid (HBW.out.trans (HBK.out.mono hgw.out))
              obtain ⟨b, o, rfl, hc0, _⟩ := (HS.out.below HBA.out).getP hlt
              obtain ⟨u, hu⟩ := HFK.out.cell (j := k) (by omega)
              have hfr := HFK.out.free k
              have hlen : (flat encBo ((initR l roots).take k)).length = k := by rw [flatT_len, List.length_take, HLI.out]; omega
              have hst := HFK.out.store (.bool (roots.contains l[k].1)) (by omega)
              rw [hlen, ← initR_take hlt] at hst
              have HST := Lib.hid hst
              have HL19 := Lib.hid (sl19Has_any RA rc roots l[k].1)
              have HRK := Lib.hid (HRT.out.below HBA.out)
              clear hst hlen
              generalize l[k] = q at *
              obtain ⟨q1, q2⟩ := q
              simp only at *
              generalize roots.contains q1 = B at *
              go_wp2_with (go_at_call 83; refine (HL19.out _ HRK.out hrl).mono ?_; rintro e w' ⟨rfl, rfl⟩)
              go_roundw
              case rel => exact ⟨k + 1, by omega, by go_num, HST.out, HBK.out.setCell (Nat.le_refl _) _⟩
              case measure => first | (simp [intOf]; done) | (simp [intOf]; omega)
            · have hlt' : ¬ (k : Int) < (l.length : Int) := by omega
              have HFE := Lib.hid (show Own wr g 4 1 encBo (.slice (some ⟨g, 0, none⟩) l.length l.length) (afterR l roots 0) by
                have h := HFK.out
                rw [List.take_of_length_le (by rw [HLI.out]; omega)] at h
                have h2 := Filled.own (l := initR l roots) (enc := encBo) (size := 1) (base := g) (by rw [HLI.out]; exact h) (fun _ => rfl) (Nat.le_refl _) (by rw [HLI.out]; unfold maxLen; omega)
                rw [HLI.out] at h2; exact h2)
              go_wp2
              go_roundw
              case rel => exact ⟨1, by omega, by first | rfl | go_num, ⟨fun h => by omega, fun m h => by (obtain rfl : m = 0 := by omega); exact HFE.out⟩, HBK.out⟩
              case measure => first | (simp [intOf]; done) | (simp [intOf]; omega)
        · obtain ⟨m, rfl⟩ : ∃ m, rd = m + 1 := ⟨rd - 1, by omega⟩
          have hrd0 : (((m + 1 : Nat) : Int) == 0) = false := by rw [beq_eq_false_iff_ne]; omega
          have HOM := Lib.hid (show Own wr g 4 1 encBo (.slice (some ⟨g, 0, none⟩) l.length l.length) (roundK l (afterR l roots m) 0) from HF.out.2 m rfl)
          have HRS := Lib.hid (fun k => roundK_succ l (afterR l roots m) k)
          have HRL := Lib.hid (fun k => roundK_len (s := l) (inn := afterR l roots m) (HLA.out m) k)
          have HFIN := Lib.hid (show roundK l (afterR l roots m) l.length = afterR l roots (m + 1) from rfl)
          generalize roundK l (afterR l roots m) = RK at *
          go_wp2_with fail
          go_loopw [8] (fun vk wk => ∃ (k : Nat), k ≤ l.length ∧ vk = .int .i64 k ∧ Hid (Own wk g 4 1 encBo (.slice (some ⟨g, 0, none⟩) l.length l.length) (RK k)) ∧ Hid (Below g w1 wk)) (fun vk _ => l.length - (intOf vk).toNat)
          case atStart => exact ⟨0, Nat.zero_le _, rfl, HOM.out, HBR.out⟩
          case round =>
            obtain ⟨k, hk, rfl, HOK, HBK⟩ := hrel
            by_cases hlt : k < l.length
            · have hlt' : (k : Int) < (l.length : Int) := by omega
              have HBA := Lib.hid (HBW.out.trans (HBK.out.mono hgw.out))
              obtain ⟨b, o, rfl, _, hc1⟩ := (HS.out.below HBA.out).getP hlt
              have htz : l[k].2.size ≤ 1048576 := by
                have := textV_size (pieceOk_iff.1 (storeV_piece HV.out (List.getElem_mem hlt))).1; omega
              have hRD := fun w => sReadFolder_any l[k].2 w htz
              have hnm := namesK_text hlt
              unfold RfRes at hRD
              have hkl : k < (RK k).length := by rw [HRL.out]; exact hlt
              have HSTP := Lib.hid (HRS.out k)
              have HLK := Lib.hid (HRL.out k)
              generalize hen : (readF (bs l[k].2)).getD [] = en at *
              have hfold : (readF (bs l[k].2)).isSome = false → en = [] := fun h => by
                rw [← hen]
                cases hrr : readF (bs l[k].2) with
                | none => rfl
                | some x => rw [hrr] at h; cases h
              have hen3 : en.length ≤ 3 := by
                rw [← hen]
                cases hrr : readF (bs l[k].2) with
                | none => simp
                | some x => exact entsV_len (readF_iff.1 hrr).1
              generalize (readF (bs l[k].2)).isSome = okf at *
              generalize l[k] = q at *
              obtain ⟨q1, q2⟩ := q
              simp only at *
              have HRD := Lib.hid hRD
              clear hRD hen htz
              go_wp2_with fail
              refine (HRD.out _).mono ?_
              rintro e w3 ⟨v3, rfl, hown3, hb3⟩
              obtain ⟨LA, lc, rfl, _, hs3, _⟩ := hown3.sl
              have HL3 := Lib.hid hs3
              have hgk : g < wr.heap.size := (HOK.out.blk g rfl).2
              obtain ⟨zk, hzk⟩ : ∃ z, z = wr.heap.size := ⟨_, rfl⟩
              have HE3 := Lib.hid (show Own w3 zk 70 2 encE (.slice LA en.length lc) en by rw [hzk]; exact hown3)
              rw [← hzk] at hgk
              clear hzk
              have HB3 := Lib.hid (Below_then HBK.out hb3 (Nat.le_of_eq HGE.out.symm))
              have HO3 := Lib.hid (HOK.out.below hb3)
              clear hown3 hs3 hb3 hc1
              obtain ⟨gb, go_, e3, hcb⟩ := HO3.out.sl'.getT1 hkl
              injection e3 with e3; injection e3 with e4 e5
              subst e4; subst e5
              simp only [Nat.zero_add] at hcb
              cases hb : (RK k)[k]
              · have HN := Lib.hid (show RK (k + 1) = RK k by rw [HSTP.out, stepK_no (by rw [getB_at hkl, hb])])
                rw [hb] at hcb
                by_cases hz : en.length = 0
                · have hz' : ¬ (0 : Int) < (en.length : Int) := by omega
                  go_wp2_with fail
                  go_loopw [11] (fun vj wj => ∃ (j : Nat), j = 0 ∧ vj = .int .i64 j ∧ Hid (Own wj g 4 1 encBo (.slice (some ⟨g, 0, none⟩) l.length l.length) (RK k)) ∧ Hid (Own wj zk 70 2 encE (.slice LA en.length lc) en) ∧ Hid (Below g w1 wj)) (fun vj _ => en.length - (intOf vj).toNat)
                  case atStart => exact ⟨0, rfl, rfl, HO3.out, HE3.out, HB3.out⟩
                  case round =>
                    obtain ⟨j, rfl, rfl, HOJ, HEJ, HBJ⟩ := hrel
                    obtain ⟨gb, go_, e3, hcb⟩ := HOJ.out.sl'.getT1 hkl
                    injection e3 with e3; injection e3 with e4 e5
                    subst e4; subst e5
                    simp only [Nat.zero_add] at hcb
                    rw [hb] at hcb
                    have HOE := Lib.hid (show Own wr g 4 1 encBo (.slice (some ⟨g, 0, none⟩) l.length l.length) (RK (k + 1)) by rw [HN.out]; exact HOJ.out)
                    go_wp2
                    go_roundw
                    case rel => first | exact ⟨k + 1, by omega, by go_num, HOE.out, HBJ.out⟩ | exact ⟨k + 1, by omega, by omega, HOE.out⟩ | exact ⟨k + 1, by omega, by go_num, HOE.out⟩
                    case measure => first | (simp [intOf]; done) | (simp [intOf]; omega)
                · have hz' : (0 : Int) < (en.length : Int) := by omega
                  go_wp2_with fail
                  go_loopw [11] (fun vj wj => ∃ (j : Nat), j = 0 ∧ vj = .int .i64 j ∧ Hid (Own wj g 4 1 encBo (.slice (some ⟨g, 0, none⟩) l.length l.length) (RK k)) ∧ Hid (Own wj zk 70 2 encE (.slice LA en.length lc) en) ∧ Hid (Below g w1 wj)) (fun vj _ => en.length - (intOf vj).toNat)
                  case atStart => exact ⟨0, rfl, rfl, HO3.out, HE3.out, HB3.out⟩
                  case round =>
                    obtain ⟨j, rfl, rfl, HOJ, HEJ, HBJ⟩ := hrel
                    obtain ⟨gb, go_, e3, hcb⟩ := HOJ.out.sl'.getT1 hkl
                    injection e3 with e3; injection e3 with e4 e5
                    subst e4; subst e5
                    simp only [Nat.zero_add] at hcb
                    rw [hb] at hcb
                    have HOE := Lib.hid (show Own wr g 4 1 encBo (.slice (some ⟨g, 0, none⟩) l.length l.length) (RK (k + 1)) by rw [HN.out]; exact HOJ.out)
                    go_wp2
                    go_roundw
                    case rel => first | exact ⟨k + 1, by omega, by go_num, HOE.out, HBJ.out⟩ | exact ⟨k + 1, by omega, by omega, HOE.out⟩ | exact ⟨k + 1, by omega, by go_num, HOE.out⟩
                    case measure => first | (simp [intOf]; done) | (simp [intOf]; omega)
              · have hbt : (RK k).getD k false = true := by rw [getB_at hkl, hb]
                have HN := Lib.hid (show RK (k + 1) = markL l (en.map (·.2)) (RK k) by rw [HSTP.out, stepK_yes hbt, hnm])
                have HTR := Lib.hid (fun qs => markL_true (s := l) (qs := qs) HLK.out hbt)
                have HML := Lib.hid (fun qs => markL_len' (s := l) (qs := qs) HLK.out)
                have hfold' : 0 < en.length → okf = true := fun h => by
                  cases okf
                  · have := hfold rfl
                    rw [this] at h; simp at h
                  · rfl
                have HOJ0 := Lib.hid (show Own w3 g 4 1 encBo (.slice (some ⟨g, 0, none⟩) l.length l.length) (markL l ((en.map (·.2)).take 0) (RK k)) from HO3.out)
                clear hcb HSTP hfold hnm
                go_wp2_with fail
                go_loopw [11] (fun vj wj => ∃ (j : Nat), j ≤ en.length ∧ vj = .int .i64 j ∧ Hid (Own wj g 4 1 encBo (.slice (some ⟨g, 0, none⟩) l.length l.length) (markL l ((en.map (·.2)).take j) (RK k))) ∧ Hid (Own wj zk 70 2 encE (.slice LA en.length lc) en) ∧ Hid (Below g w1 wj)) (fun vj _ => en.length - (intOf vj).toNat)
                case atStart => exact ⟨0, Nat.zero_le _, rfl, HOJ0.out, HE3.out, HB3.out⟩
                case round =>
                  obtain ⟨j, hj, rfl, HOJ, HEJ, HBJ⟩ := hrel
                  have hklj : k < (markL l ((en.map (·.2)).take j) (RK k)).length := by rw [HML.out]; exact hlt
                  obtain ⟨gb, go_, e3, hcb⟩ := HOJ.out.sl'.getT1 hklj
                  injection e3 with e3; injection e3 with e4 e5
                  subst e4; subst e5
                  simp only [Nat.zero_add] at hcb
                  have hbj : (markL l ((en.map (·.2)).take j) (RK k))[k] = true := by
                    have := HTR.out ((en.map (·.2)).take j)
                    rwa [getB_at hklj] at this
                  rw [hbj] at hcb
                  by_cases hjl : j < en.length
                  · have hjl' : (j : Int) < (en.length : Int) := by omega
                    obtain rfl := hfold' (by omega)
                    have hjm : j < (en.map (·.2)).length := by rw [List.length_map]; exact hjl
                    have HNJ := Lib.hid (markL_next (s := l) (inn := RK k) hjm)
                    have HLJ := Lib.hid (HML.out ((en.map (·.2)).take j))
                    rw [List.getElem_map] at HNJ
                    generalize markL l ((en.map (·.2)).take j) (RK k) = L0 at *
                    generalize hq : en[j].2 = q at *
                    have HOI0 := Lib.hid (show Own wr g 4 1 encBo (.slice (some ⟨g, 0, none⟩) l.length l.length) (mkP l q L0 0) by rw [mkP_zero]; exact HOJ.out)
                    clear hbj
                    go_wp2_with fail
                    go_loopw [12] (fun vi wi => ∃ (i : Nat), i ≤ l.length ∧ vi = .int .i64 i ∧ Hid (Own wi g 4 1 encBo (.slice (some ⟨g, 0, none⟩) l.length l.length) (mkP l q L0 i)) ∧ Hid (Own wi zk 70 2 encE (.slice LA en.length lc) en) ∧ Hid (Below g w1 wi)) (fun vi _ => l.length - (intOf vi).toNat)
                    case atStart => exact ⟨0, Nat.zero_le _, rfl, HOI0.out, HEJ.out, HBJ.out⟩
                    case round =>
                      obtain ⟨i, hi, rfl, HOI, HEI, HBI⟩ := hrel
                      by_cases hil : i < l.length
                      · have hil' : (i : Int) < (l.length : Int) := by omega
                        have hli : (mkP l q L0 i).length = l.length := mkP_len HLJ.out (by omega)
                        have hip : i < (mkP l q L0 i).length := by omega
                        have hNX := mkP_next (q := q) HLJ.out hil
                        have hAT := mkP_at (q := q) HLJ.out hil hip
                        have HBA2 := Lib.hid (HBW.out.trans (HBI.out.mono hgw.out))
                        obtain ⟨b6, o6, hA6, hs0, _⟩ := (HS.out.below HBA2.out).getP hil
                        injection hA6 with hA6; injection hA6 with hA7 hA8
                        subst hA7; subst hA8
                        obtain ⟨b7, o7, hLA, _, hy1⟩ := HEI.out.sl'.getE hjl
                        subst hLA
                        rw [hq] at hy1
                        obtain ⟨gc, go2, e6, hcc⟩ := HOI.out.sl'.getT1 hip
                        injection e6 with e6; injection e6 with e7 e8
                        subst e7; subst e8
                        simp only [Nat.zero_add] at hcc
                        rw [hAT] at hcc
                        have hfz := HOI.out.free' i
                        have HSET := Lib.hid (fun b => HOI.out.setB hip b)
                        have HSL := Lib.hid (fun b => HEI.out.setLowR (p := ⟨g, i, none⟩) hgk (.bool b))
                        have HBS := Lib.hid (fun b => HBI.out.setCell (p := ⟨g, i, none⟩) (Nat.le_refl g) (.bool b))
                        have HNX := Lib.hid hNX
                        clear hNX hAT
                        generalize L0[i]'(by rw [HLJ.out]; exact hil) = bi at *
                        generalize l[i] = y at *
                        obtain ⟨y1, y2⟩ := y
                        simp only at *
                        cases bi
                        · by_cases hpq : y1 = q
                          · have hpq' : (y1 == q) = true := by rw [beq_iff_eq]; exact hpq
                            have HE := Lib.hid (show Own (wr.setCell ⟨g, i, none⟩ (.bool true)) g 4 1 encBo (.slice (some ⟨g, 0, none⟩) l.length l.length) (mkP l q L0 (i + 1)) by rw [← HNX.out, decide_eq_true hpq]; exact HSET.out true)
                            clear hpq
                            have hcd : wr.drew.cell? _ = _ := hcc
                            have hsd : wr.drew.cell? _ = _ := hs0
                            have hyd : wr.drew.cell? _ = _ := hy1
                            have hfd : wr.drew.frozen? _ = _ := hfz
                            go_wp2_with fail
                            refine wp_region_inv (by kernel_rfl) (by kernel_rfl) (fun a0 d a W => ∃ v0 v1 v2 v3 v4 v5 v6 v7 v8 v9 v10 v11 v12 v13 v14 v15 v16 v17 v18 v19 : Value, a = ⟨#[.slice (some ⟨b, o, none⟩) l.length c, .slice RA roots.length rc, undef, undef, .slice none 0 0, .slice (some ⟨w.heap.size, 0, none⟩) 0 0, .slice (some ⟨g, 0, none⟩) l.length l.length, .int .i64 ((m : Int) + 1), .int .i64 (k : Int), .slice (some ⟨b7, o7, none⟩) en.length lc, .bool true, .int .i64 (j : Int), .int .i64 (i : Int), undef, .slice (some ⟨w.heap.size, 0, none⟩) 0 0, .slice (some ⟨b, o, none⟩) l.length c, .bool true, .bool false, undef, .slice (some ⟨b, o, none⟩) l.length c, .int .i64 (l.length : Int), .slice (some ⟨g, 0, none⟩) l.length l.length, .int .i64 ((m : Int) + 1), .slice (some ⟨b, o, none⟩) l.length c, .int .i64 (l.length : Int), .bool true, u26, u27, .int .i64 (k : Int), .slice (some ⟨b, o, none⟩) l.length c, .int .i64 (l.length : Int), .bool true, u32, u33, .int .i64 ((m : Int) + 1), .bool false, u36, u37, u38, u39, u40, u41, u42, u43, u44, u45, .tuple #[.slice (some ⟨b7, o7, none⟩) en.length lc, .bool true], .slice (some ⟨b, o, none⟩) l.length c, .int .i64 (k : Int), .pointer (some ⟨b, o + k * 2, none⟩), .pointer (some ⟨b, o + k * 2 + 1, none⟩), .string q2, .tuple #[.slice (some ⟨b7, o7, none⟩) en.length lc, .bool true], .slice (some ⟨b7, o7, none⟩) en.length lc, .bool true, .int .i64 (j : Int), .slice (some ⟨b7, o7, none⟩) en.length lc, .int .i64 (en.length : Int), .bool true, .bool true, .slice (some ⟨g, 0, none⟩) l.length l.length, .int .i64 (k : Int), .pointer (some ⟨g, k, none⟩), .bool true, .bool true, .bool true, .bool true, .bool true, u68, u69, .int .i64 (i : Int), .slice (some ⟨b, o, none⟩) l.length c, .int .i64 (l.length : Int), .bool true, u74, u75, v0, v1, v2, v3, v4, v5, v6, v7, v8, v9, v10, v11, v12, v13, v14, v15, v16, v17, v18, v19, undef, undef, undef, undef, undef, undef, undef, undef, undef, undef, undef, undef, undef, undef, undef, undef, undef, undef, undef], []⟩ ∧ ReJ wr ⟨g, i, none⟩ (reV (.slice (some ⟨g, 0, none⟩) l.length l.length) (.int .i64 (i : Int)) (.slice (some ⟨g, 0, none⟩) l.length l.length) (.int .i64 (i : Int)) (.pointer (some ⟨g, i, none⟩)) (.bool false) (.bool false) (.slice (some ⟨b, o, none⟩) l.length c) (.int .i64 (i : Int)) (.pointer (some ⟨b, o + i * 2, none⟩)) (.pointer (some ⟨b, o + i * 2, none⟩)) (.int .i64 y1) (.slice (some ⟨b7, o7, none⟩) en.length lc) (.int .i64 (j : Int)) (.pointer (some ⟨b7, o7 + j * 2, none⟩)) (.pointer (some ⟨b7, o7 + j * 2 + 1, none⟩)) (.int .i64 q) (.bool true) (.bool true) (.pointer (some ⟨g, i, none⟩))) true d v0 v1 v2 v3 v4 v5 v6 v7 v8 v9 v10 v11 v12 v13 v14 v15 v16 v17 v18 v19 W) ?_ ?_ ?_
                            · exact ⟨_, _, _, _, _, _, _, _, _, _, _, _, _, _, _, _, _, _, _, _, rfl, ⟨nofun, nofun, nofun, nofun, nofun, nofun, nofun, nofun, nofun, nofun, nofun, nofun, nofun, nofun, nofun, nofun, nofun, nofun, nofun, nofun, nofun, nofun, nofun, nofun, fun _ => rfl, nofun⟩⟩
                            · refine ⟨?_, ?_, ?_, ?_, ?_, ?_, ?_, ?_, ?_, ?_, ?_, ?_, ?_, ?_, ?_, ?_, ?_, ?_, ?_, ?_, ?_, trivial⟩
                              all_goals
                                intro d a W K hd hdep hJ hK
                                obtain ⟨v0, v1, v2, v3, v4, v5, v6, v7, v8, v9, v10, v11, v12, v13, v14, v15, v16, v17, v18, v19, rfl, hj⟩ := hJ
                                have HJ := Lib.hid hj
                                have HK := Lib.hid hK
                                have HD := Lib.hid hd
                                have HDEP := Lib.hid hdep
                                clear hj hK hd hdep
                              · go_simp
                                exact HK.out _ _ ⟨_, _, _, _, _, _, _, _, _, _, _, _, _, _, _, _, _, _, _, _, rfl, { HJ.out with c0 := fun _ => rfl }⟩
                              · go_simp
                                exact HK.out _ _ ⟨_, _, _, _, _, _, _, _, _, _, _, _, _, _, _, _, _, _, _, _, rfl, { HJ.out with c1 := fun _ => rfl }⟩
                              · go_simp
                                exact HK.out _ _ ⟨_, _, _, _, _, _, _, _, _, _, _, _, _, _, _, _, _, _, _, _, rfl, { HJ.out with c2 := fun _ => rfl }⟩
                              · go_simp
                                exact HK.out _ _ ⟨_, _, _, _, _, _, _, _, _, _, _, _, _, _, _, _, _, _, _, _, rfl, { HJ.out with c3 := fun _ => rfl }⟩
                              · obtain rfl : v2 = .slice (some ⟨g, 0, none⟩) l.length l.length := HJ.out.c2 (HDEP.out { on := 2, ground := Ground.data } (by simp) rfl)
                                obtain rfl : v3 = .int .i64 (i : Int) := HJ.out.c3 (HDEP.out { on := 3, ground := Ground.data } (by simp) rfl)
                                go_simp
                                exact HK.out _ _ ⟨_, _, _, _, _, _, _, _, _, _, _, _, _, _, _, _, _, _, _, _, rfl, { HJ.out with c4 := fun _ => rfl }⟩
                              · obtain rfl : v4 = .pointer (some ⟨g, i, none⟩) := HJ.out.c4 (HDEP.out { on := 4, ground := Ground.data } (by simp) rfl)
                                have h20 : d 20 = false := by
                                  cases e : d 20
                                  · rfl
                                  · have h : d 5 = true := by exact HJ.out.o6 (HJ.out.o18 (HJ.out.o20 e).1).1
                                    rw [HD.out] at h; cases h
                                obtain rfl := HJ.out.wn h20
                                go_simp
                                exact HK.out _ _ ⟨_, _, _, _, _, _, _, _, _, _, _, _, _, _, _, _, _, _, _, _, rfl, { HJ.out with o6 := fun _ => rfl, c5 := fun _ => rfl }⟩
                              · obtain rfl : v5 = .bool false := HJ.out.c5 (HDEP.out { on := 5, ground := Ground.data } (by simp) rfl)
                                go_simp
                                exact HK.out _ _ ⟨_, _, _, _, _, _, _, _, _, _, _, _, _, _, _, _, _, _, _, _, rfl, { HJ.out with o6 := fun _ => (HDEP.out { on := 5, ground := Ground.data } (by simp) rfl), o18 := fun e => ⟨rfl, (HJ.out.o18 e).2⟩, c6 := fun _ => rfl }⟩
                              · obtain rfl : v6 = .bool false := HJ.out.c6 (HDEP.out { on := 6, ground := Ground.guard } (by simp) rfl)
                                go_simp
                                exact HK.out _ _ ⟨_, _, _, _, _, _, _, _, _, _, _, _, _, _, _, _, _, _, _, _, rfl, { HJ.out with c7 := fun _ => rfl }⟩
                              · obtain rfl : v6 = .bool false := HJ.out.c6 (HDEP.out { on := 6, ground := Ground.guard } (by simp) rfl)
                                go_simp
                                exact HK.out _ _ ⟨_, _, _, _, _, _, _, _, _, _, _, _, _, _, _, _, _, _, _, _, rfl, { HJ.out with c8 := fun _ => rfl }⟩
                              · obtain rfl : v6 = .bool false := HJ.out.c6 (HDEP.out { on := 6, ground := Ground.guard } (by simp) rfl)
                                obtain rfl : v7 = .slice (some ⟨b, o, none⟩) l.length c := HJ.out.c7 (HDEP.out { on := 7, ground := Ground.data } (by simp) rfl)
                                obtain rfl : v8 = .int .i64 (i : Int) := HJ.out.c8 (HDEP.out { on := 8, ground := Ground.data } (by simp) rfl)
                                go_simp
                                exact HK.out _ _ ⟨_, _, _, _, _, _, _, _, _, _, _, _, _, _, _, _, _, _, _, _, rfl, { HJ.out with c9 := fun _ => rfl }⟩
                              · obtain rfl : v6 = .bool false := HJ.out.c6 (HDEP.out { on := 6, ground := Ground.guard } (by simp) rfl)
                                obtain rfl : v9 = .pointer (some ⟨b, o + i * 2, none⟩) := HJ.out.c9 (HDEP.out { on := 9, ground := Ground.data } (by simp) rfl)
                                go_simp
                                exact HK.out _ _ ⟨_, _, _, _, _, _, _, _, _, _, _, _, _, _, _, _, _, _, _, _, rfl, { HJ.out with c10 := fun _ => rfl }⟩
                              · obtain rfl : v6 = .bool false := HJ.out.c6 (HDEP.out { on := 6, ground := Ground.guard } (by simp) rfl)
                                obtain rfl : v10 = .pointer (some ⟨b, o + i * 2, none⟩) := HJ.out.c10 (HDEP.out { on := 10, ground := Ground.data } (by simp) rfl)
                                have h20 : d 20 = false := by
                                  cases e : d 20
                                  · rfl
                                  · have h : d 11 = true := by exact (HJ.out.o17 (HJ.out.o18 (HJ.out.o20 e).1).2).2
                                    rw [HD.out] at h; cases h
                                obtain rfl := HJ.out.wn h20
                                go_simp
                                exact HK.out _ _ ⟨_, _, _, _, _, _, _, _, _, _, _, _, _, _, _, _, _, _, _, _, rfl, { HJ.out with o17 := fun e => ⟨(HJ.out.o17 e).1, rfl⟩, c11 := fun _ => rfl }⟩
                              · obtain rfl : v6 = .bool false := HJ.out.c6 (HDEP.out { on := 6, ground := Ground.guard } (by simp) rfl)
                                go_simp
                                exact HK.out _ _ ⟨_, _, _, _, _, _, _, _, _, _, _, _, _, _, _, _, _, _, _, _, rfl, { HJ.out with c12 := fun _ => rfl }⟩
                              · obtain rfl : v6 = .bool false := HJ.out.c6 (HDEP.out { on := 6, ground := Ground.guard } (by simp) rfl)
                                go_simp
                                exact HK.out _ _ ⟨_, _, _, _, _, _, _, _, _, _, _, _, _, _, _, _, _, _, _, _, rfl, { HJ.out with c13 := fun _ => rfl }⟩
                              · obtain rfl : v6 = .bool false := HJ.out.c6 (HDEP.out { on := 6, ground := Ground.guard } (by simp) rfl)
                                obtain rfl : v12 = .slice (some ⟨b7, o7, none⟩) en.length lc := HJ.out.c12 (HDEP.out { on := 12, ground := Ground.data } (by simp) rfl)
                                obtain rfl : v13 = .int .i64 (j : Int) := HJ.out.c13 (HDEP.out { on := 13, ground := Ground.data } (by simp) rfl)
                                go_simp
                                exact HK.out _ _ ⟨_, _, _, _, _, _, _, _, _, _, _, _, _, _, _, _, _, _, _, _, rfl, { HJ.out with c14 := fun _ => rfl }⟩
                              · obtain rfl : v6 = .bool false := HJ.out.c6 (HDEP.out { on := 6, ground := Ground.guard } (by simp) rfl)
                                obtain rfl : v14 = .pointer (some ⟨b7, o7 + j * 2, none⟩) := HJ.out.c14 (HDEP.out { on := 14, ground := Ground.data } (by simp) rfl)
                                go_simp
                                exact HK.out _ _ ⟨_, _, _, _, _, _, _, _, _, _, _, _, _, _, _, _, _, _, _, _, rfl, { HJ.out with c15 := fun _ => rfl }⟩
                              · obtain rfl : v6 = .bool false := HJ.out.c6 (HDEP.out { on := 6, ground := Ground.guard } (by simp) rfl)
                                obtain rfl : v15 = .pointer (some ⟨b7, o7 + j * 2 + 1, none⟩) := HJ.out.c15 (HDEP.out { on := 15, ground := Ground.data } (by simp) rfl)
                                have h20 : d 20 = false := by
                                  cases e : d 20
                                  · rfl
                                  · have h : d 16 = true := by exact (HJ.out.o17 (HJ.out.o18 (HJ.out.o20 e).1).2).1
                                    rw [HD.out] at h; cases h
                                obtain rfl := HJ.out.wn h20
                                go_simp
                                exact HK.out _ _ ⟨_, _, _, _, _, _, _, _, _, _, _, _, _, _, _, _, _, _, _, _, rfl, { HJ.out with o17 := fun e => ⟨rfl, (HJ.out.o17 e).2⟩, c16 := fun _ => rfl }⟩
                              · obtain rfl : v6 = .bool false := HJ.out.c6 (HDEP.out { on := 6, ground := Ground.guard } (by simp) rfl)
                                obtain rfl : v11 = .int .i64 y1 := HJ.out.c11 (HDEP.out { on := 11, ground := Ground.data } (by simp) rfl)
                                obtain rfl : v16 = .int .i64 q := HJ.out.c16 (HDEP.out { on := 16, ground := Ground.data } (by simp) rfl)
                                go_simp
                                exact HK.out _ _ ⟨_, _, _, _, _, _, _, _, _, _, _, _, _, _, _, _, _, _, _, _, rfl, { HJ.out with o17 := fun _ => ⟨(HDEP.out { on := 16, ground := Ground.data } (by simp) rfl), (HDEP.out { on := 11, ground := Ground.data } (by simp) rfl)⟩, o18 := fun e => ⟨(HJ.out.o18 e).1, rfl⟩, c17 := fun _ => rfl }⟩
                              · obtain rfl : v6 = .bool false := HJ.out.c6 (HDEP.out { on := 6, ground := Ground.data } (by simp) rfl)
                                obtain rfl : v17 = .bool true := HJ.out.c17 (HDEP.out { on := 17, ground := Ground.data } (by simp) rfl)
                                go_simp
                                exact HK.out _ _ ⟨_, _, _, _, _, _, _, _, _, _, _, _, _, _, _, _, _, _, _, _, rfl, { HJ.out with o18 := fun _ => ⟨(HDEP.out { on := 6, ground := Ground.data } (by simp) rfl), (HDEP.out { on := 17, ground := Ground.data } (by simp) rfl)⟩, o20 := fun e => ⟨rfl, (HJ.out.o20 e).2⟩, c18 := fun _ => rfl }⟩
                              · obtain rfl : v0 = .slice (some ⟨g, 0, none⟩) l.length l.length := HJ.out.c0 (HDEP.out { on := 0, ground := Ground.data } (by simp) rfl)
                                obtain rfl : v1 = .int .i64 (i : Int) := HJ.out.c1 (HDEP.out { on := 1, ground := Ground.data } (by simp) rfl)
                                go_simp
                                exact HK.out _ _ ⟨_, _, _, _, _, _, _, _, _, _, _, _, _, _, _, _, _, _, _, _, rfl, { HJ.out with o20 := fun e => ⟨(HJ.out.o20 e).1, rfl⟩, c19 := fun _ => rfl }⟩
                              · obtain rfl : v19 = .pointer (some ⟨g, i, none⟩) := HJ.out.c19 (HDEP.out { on := 19, ground := Ground.data } (by simp) rfl)
                                obtain rfl : v18 = .bool true := HJ.out.c18 (HDEP.out { on := 18, ground := Ground.data } (by simp) rfl)
                                obtain rfl := HJ.out.wn HD.out
                                go_simp
                                exact HK.out _ _ ⟨_, _, _, _, _, _, _, _, _, _, _, _, _, _, _, _, _, _, _, _, rfl, { HJ.out with o20 := fun _ => ⟨(HDEP.out { on := 18, ground := Ground.data } (by simp) rfl), (HDEP.out { on := 19, ground := Ground.data } (by simp) rfl)⟩, wn := fun h => (by cases h), ws := fun _ => rfl }⟩
                            · intro d a W hd hJ
                              obtain ⟨v0, v1, v2, v3, v4, v5, v6, v7, v8, v9, v10, v11, v12, v13, v14, v15, v16, v17, v18, v19, rfl, hj⟩ := hJ
                              obtain rfl := hj.ws (hd 20 (by decide))
                              clear hj hd
                              go_wp2
                              go_roundw
                              case rel => exact ⟨i + 1, by omega, by go_num, HE.out.drew, (HSL.out _).drew, (HBS.out _).drew⟩
                              case measure => first | (simp [intOf]; done) | (simp [intOf]; omega)
                          · have hpq' : (y1 == q) = false := by rw [beq_eq_false_iff_ne]; exact hpq
                            have HE := Lib.hid (show Own (wr.setCell ⟨g, i, none⟩ (.bool false)) g 4 1 encBo (.slice (some ⟨g, 0, none⟩) l.length l.length) (mkP l q L0 (i + 1)) by rw [← HNX.out, decide_eq_false hpq]; exact HSET.out false)
                            clear hpq
                            have hcd : wr.drew.cell? _ = _ := hcc
                            have hsd : wr.drew.cell? _ = _ := hs0
                            have hyd : wr.drew.cell? _ = _ := hy1
                            have hfd : wr.drew.frozen? _ = _ := hfz
                            go_wp2_with fail
                            refine wp_region_inv (by kernel_rfl) (by kernel_rfl) (fun a0 d a W => ∃ v0 v1 v2 v3 v4 v5 v6 v7 v8 v9 v10 v11 v12 v13 v14 v15 v16 v17 v18 v19 : Value, a = ⟨#[.slice (some ⟨b, o, none⟩) l.length c, .slice RA roots.length rc, undef, undef, .slice none 0 0, .slice (some ⟨w.heap.size, 0, none⟩) 0 0, .slice (some ⟨g, 0, none⟩) l.length l.length, .int .i64 ((m : Int) + 1), .int .i64 (k : Int), .slice (some ⟨b7, o7, none⟩) en.length lc, .bool true, .int .i64 (j : Int), .int .i64 (i : Int), undef, .slice (some ⟨w.heap.size, 0, none⟩) 0 0, .slice (some ⟨b, o, none⟩) l.length c, .bool true, .bool false, undef, .slice (some ⟨b, o, none⟩) l.length c, .int .i64 (l.length : Int), .slice (some ⟨g, 0, none⟩) l.length l.length, .int .i64 ((m : Int) + 1), .slice (some ⟨b, o, none⟩) l.length c, .int .i64 (l.length : Int), .bool true, u26, u27, .int .i64 (k : Int), .slice (some ⟨b, o, none⟩) l.length c, .int .i64 (l.length : Int), .bool true, u32, u33, .int .i64 ((m : Int) + 1), .bool false, u36, u37, u38, u39, u40, u41, u42, u43, u44, u45, .tuple #[.slice (some ⟨b7, o7, none⟩) en.length lc, .bool true], .slice (some ⟨b, o, none⟩) l.length c, .int .i64 (k : Int), .pointer (some ⟨b, o + k * 2, none⟩), .pointer (some ⟨b, o + k * 2 + 1, none⟩), .string q2, .tuple #[.slice (some ⟨b7, o7, none⟩) en.length lc, .bool true], .slice (some ⟨b7, o7, none⟩) en.length lc, .bool true, .int .i64 (j : Int), .slice (some ⟨b7, o7, none⟩) en.length lc, .int .i64 (en.length : Int), .bool true, .bool true, .slice (some ⟨g, 0, none⟩) l.length l.length, .int .i64 (k : Int), .pointer (some ⟨g, k, none⟩), .bool true, .bool true, .bool true, .bool true, .bool true, u68, u69, .int .i64 (i : Int), .slice (some ⟨b, o, none⟩) l.length c, .int .i64 (l.length : Int), .bool true, u74, u75, v0, v1, v2, v3, v4, v5, v6, v7, v8, v9, v10, v11, v12, v13, v14, v15, v16, v17, v18, v19, undef, undef, undef, undef, undef, undef, undef, undef, undef, undef, undef, undef, undef, undef, undef, undef, undef, undef, undef], []⟩ ∧ ReJ wr ⟨g, i, none⟩ (reV (.slice (some ⟨g, 0, none⟩) l.length l.length) (.int .i64 (i : Int)) (.slice (some ⟨g, 0, none⟩) l.length l.length) (.int .i64 (i : Int)) (.pointer (some ⟨g, i, none⟩)) (.bool false) (.bool false) (.slice (some ⟨b, o, none⟩) l.length c) (.int .i64 (i : Int)) (.pointer (some ⟨b, o + i * 2, none⟩)) (.pointer (some ⟨b, o + i * 2, none⟩)) (.int .i64 y1) (.slice (some ⟨b7, o7, none⟩) en.length lc) (.int .i64 (j : Int)) (.pointer (some ⟨b7, o7 + j * 2, none⟩)) (.pointer (some ⟨b7, o7 + j * 2 + 1, none⟩)) (.int .i64 q) (.bool false) (.bool false) (.pointer (some ⟨g, i, none⟩))) false d v0 v1 v2 v3 v4 v5 v6 v7 v8 v9 v10 v11 v12 v13 v14 v15 v16 v17 v18 v19 W) ?_ ?_ ?_
                            · exact ⟨_, _, _, _, _, _, _, _, _, _, _, _, _, _, _, _, _, _, _, _, rfl, ⟨nofun, nofun, nofun, nofun, nofun, nofun, nofun, nofun, nofun, nofun, nofun, nofun, nofun, nofun, nofun, nofun, nofun, nofun, nofun, nofun, nofun, nofun, nofun, nofun, fun _ => rfl, nofun⟩⟩
                            · refine ⟨?_, ?_, ?_, ?_, ?_, ?_, ?_, ?_, ?_, ?_, ?_, ?_, ?_, ?_, ?_, ?_, ?_, ?_, ?_, ?_, ?_, trivial⟩
                              all_goals
                                intro d a W K hd hdep hJ hK
                                obtain ⟨v0, v1, v2, v3, v4, v5, v6, v7, v8, v9, v10, v11, v12, v13, v14, v15, v16, v17, v18, v19, rfl, hj⟩ := hJ
                                have HJ := Lib.hid hj
                                have HK := Lib.hid hK
                                have HD := Lib.hid hd
                                have HDEP := Lib.hid hdep
                                clear hj hK hd hdep
                              · go_simp
                                exact HK.out _ _ ⟨_, _, _, _, _, _, _, _, _, _, _, _, _, _, _, _, _, _, _, _, rfl, { HJ.out with c0 := fun _ => rfl }⟩
                              · go_simp
                                exact HK.out _ _ ⟨_, _, _, _, _, _, _, _, _, _, _, _, _, _, _, _, _, _, _, _, rfl, { HJ.out with c1 := fun _ => rfl }⟩
                              · go_simp
                                exact HK.out _ _ ⟨_, _, _, _, _, _, _, _, _, _, _, _, _, _, _, _, _, _, _, _, rfl, { HJ.out with c2 := fun _ => rfl }⟩
                              · go_simp
                                exact HK.out _ _ ⟨_, _, _, _, _, _, _, _, _, _, _, _, _, _, _, _, _, _, _, _, rfl, { HJ.out with c3 := fun _ => rfl }⟩
                              · obtain rfl : v2 = .slice (some ⟨g, 0, none⟩) l.length l.length := HJ.out.c2 (HDEP.out { on := 2, ground := Ground.data } (by simp) rfl)
                                obtain rfl : v3 = .int .i64 (i : Int) := HJ.out.c3 (HDEP.out { on := 3, ground := Ground.data } (by simp) rfl)
                                go_simp
                                exact HK.out _ _ ⟨_, _, _, _, _, _, _, _, _, _, _, _, _, _, _, _, _, _, _, _, rfl, { HJ.out with c4 := fun _ => rfl }⟩
                              · obtain rfl : v4 = .pointer (some ⟨g, i, none⟩) := HJ.out.c4 (HDEP.out { on := 4, ground := Ground.data } (by simp) rfl)
                                have h20 : d 20 = false := by
                                  cases e : d 20
                                  · rfl
                                  · have h : d 5 = true := by exact HJ.out.o6 (HJ.out.o18 (HJ.out.o20 e).1).1
                                    rw [HD.out] at h; cases h
                                obtain rfl := HJ.out.wn h20
                                go_simp
                                exact HK.out _ _ ⟨_, _, _, _, _, _, _, _, _, _, _, _, _, _, _, _, _, _, _, _, rfl, { HJ.out with o6 := fun _ => rfl, c5 := fun _ => rfl }⟩
                              · obtain rfl : v5 = .bool false := HJ.out.c5 (HDEP.out { on := 5, ground := Ground.data } (by simp) rfl)
                                go_simp
                                exact HK.out _ _ ⟨_, _, _, _, _, _, _, _, _, _, _, _, _, _, _, _, _, _, _, _, rfl, { HJ.out with o6 := fun _ => (HDEP.out { on := 5, ground := Ground.data } (by simp) rfl), o18 := fun e => ⟨rfl, (HJ.out.o18 e).2⟩, c6 := fun _ => rfl }⟩
                              · obtain rfl : v6 = .bool false := HJ.out.c6 (HDEP.out { on := 6, ground := Ground.guard } (by simp) rfl)
                                go_simp
                                exact HK.out _ _ ⟨_, _, _, _, _, _, _, _, _, _, _, _, _, _, _, _, _, _, _, _, rfl, { HJ.out with c7 := fun _ => rfl }⟩
                              · obtain rfl : v6 = .bool false := HJ.out.c6 (HDEP.out { on := 6, ground := Ground.guard } (by simp) rfl)
                                go_simp
                                exact HK.out _ _ ⟨_, _, _, _, _, _, _, _, _, _, _, _, _, _, _, _, _, _, _, _, rfl, { HJ.out with c8 := fun _ => rfl }⟩
                              · obtain rfl : v6 = .bool false := HJ.out.c6 (HDEP.out { on := 6, ground := Ground.guard } (by simp) rfl)
                                obtain rfl : v7 = .slice (some ⟨b, o, none⟩) l.length c := HJ.out.c7 (HDEP.out { on := 7, ground := Ground.data } (by simp) rfl)
                                obtain rfl : v8 = .int .i64 (i : Int) := HJ.out.c8 (HDEP.out { on := 8, ground := Ground.data } (by simp) rfl)
                                go_simp
                                exact HK.out _ _ ⟨_, _, _, _, _, _, _, _, _, _, _, _, _, _, _, _, _, _, _, _, rfl, { HJ.out with c9 := fun _ => rfl }⟩
                              · obtain rfl : v6 = .bool false := HJ.out.c6 (HDEP.out { on := 6, ground := Ground.guard } (by simp) rfl)
                                obtain rfl : v9 = .pointer (some ⟨b, o + i * 2, none⟩) := HJ.out.c9 (HDEP.out { on := 9, ground := Ground.data } (by simp) rfl)
                                go_simp
                                exact HK.out _ _ ⟨_, _, _, _, _, _, _, _, _, _, _, _, _, _, _, _, _, _, _, _, rfl, { HJ.out with c10 := fun _ => rfl }⟩
                              · obtain rfl : v6 = .bool false := HJ.out.c6 (HDEP.out { on := 6, ground := Ground.guard } (by simp) rfl)
                                obtain rfl : v10 = .pointer (some ⟨b, o + i * 2, none⟩) := HJ.out.c10 (HDEP.out { on := 10, ground := Ground.data } (by simp) rfl)
                                have h20 : d 20 = false := by
                                  cases e : d 20
                                  · rfl
                                  · have h : d 11 = true := by exact (HJ.out.o17 (HJ.out.o18 (HJ.out.o20 e).1).2).2
                                    rw [HD.out] at h; cases h
                                obtain rfl := HJ.out.wn h20
                                go_simp
                                exact HK.out _ _ ⟨_, _, _, _, _, _, _, _, _, _, _, _, _, _, _, _, _, _, _, _, rfl, { HJ.out with o17 := fun e => ⟨(HJ.out.o17 e).1, rfl⟩, c11 := fun _ => rfl }⟩
                              · obtain rfl : v6 = .bool false := HJ.out.c6 (HDEP.out { on := 6, ground := Ground.guard } (by simp) rfl)
                                go_simp
                                exact HK.out _ _ ⟨_, _, _, _, _, _, _, _, _, _, _, _, _, _, _, _, _, _, _, _, rfl, { HJ.out with c12 := fun _ => rfl }⟩
                              · obtain rfl : v6 = .bool false := HJ.out.c6 (HDEP.out { on := 6, ground := Ground.guard } (by simp) rfl)
                                go_simp
                                exact HK.out _ _ ⟨_, _, _, _, _, _, _, _, _, _, _, _, _, _, _, _, _, _, _, _, rfl, { HJ.out with c13 := fun _ => rfl }⟩
                              · obtain rfl : v6 = .bool false := HJ.out.c6 (HDEP.out { on := 6, ground := Ground.guard } (by simp) rfl)
                                obtain rfl : v12 = .slice (some ⟨b7, o7, none⟩) en.length lc := HJ.out.c12 (HDEP.out { on := 12, ground := Ground.data } (by simp) rfl)
                                obtain rfl : v13 = .int .i64 (j : Int) := HJ.out.c13 (HDEP.out { on := 13, ground := Ground.data } (by simp) rfl)
                                go_simp
                                exact HK.out _ _ ⟨_, _, _, _, _, _, _, _, _, _, _, _, _, _, _, _, _, _, _, _, rfl, { HJ.out with c14 := fun _ => rfl }⟩
                              · obtain rfl : v6 = .bool false := HJ.out.c6 (HDEP.out { on := 6, ground := Ground.guard } (by simp) rfl)
                                obtain rfl : v14 = .pointer (some ⟨b7, o7 + j * 2, none⟩) := HJ.out.c14 (HDEP.out { on := 14, ground := Ground.data } (by simp) rfl)
                                go_simp
                                exact HK.out _ _ ⟨_, _, _, _, _, _, _, _, _, _, _, _, _, _, _, _, _, _, _, _, rfl, { HJ.out with c15 := fun _ => rfl }⟩
                              · obtain rfl : v6 = .bool false := HJ.out.c6 (HDEP.out { on := 6, ground := Ground.guard } (by simp) rfl)
                                obtain rfl : v15 = .pointer (some ⟨b7, o7 + j * 2 + 1, none⟩) := HJ.out.c15 (HDEP.out { on := 15, ground := Ground.data } (by simp) rfl)
                                have h20 : d 20 = false := by
                                  cases e : d 20
                                  · rfl
                                  · have h : d 16 = true := by exact (HJ.out.o17 (HJ.out.o18 (HJ.out.o20 e).1).2).1
                                    rw [HD.out] at h; cases h
                                obtain rfl := HJ.out.wn h20
                                go_simp
                                exact HK.out _ _ ⟨_, _, _, _, _, _, _, _, _, _, _, _, _, _, _, _, _, _, _, _, rfl, { HJ.out with o17 := fun e => ⟨rfl, (HJ.out.o17 e).2⟩, c16 := fun _ => rfl }⟩
                              · obtain rfl : v6 = .bool false := HJ.out.c6 (HDEP.out { on := 6, ground := Ground.guard } (by simp) rfl)
                                obtain rfl : v11 = .int .i64 y1 := HJ.out.c11 (HDEP.out { on := 11, ground := Ground.data } (by simp) rfl)
                                obtain rfl : v16 = .int .i64 q := HJ.out.c16 (HDEP.out { on := 16, ground := Ground.data } (by simp) rfl)
                                go_simp
                                exact HK.out _ _ ⟨_, _, _, _, _, _, _, _, _, _, _, _, _, _, _, _, _, _, _, _, rfl, { HJ.out with o17 := fun _ => ⟨(HDEP.out { on := 16, ground := Ground.data } (by simp) rfl), (HDEP.out { on := 11, ground := Ground.data } (by simp) rfl)⟩, o18 := fun e => ⟨(HJ.out.o18 e).1, rfl⟩, c17 := fun _ => rfl }⟩
                              · obtain rfl : v6 = .bool false := HJ.out.c6 (HDEP.out { on := 6, ground := Ground.data } (by simp) rfl)
                                obtain rfl : v17 = .bool false := HJ.out.c17 (HDEP.out { on := 17, ground := Ground.data } (by simp) rfl)
                                go_simp
                                exact HK.out _ _ ⟨_, _, _, _, _, _, _, _, _, _, _, _, _, _, _, _, _, _, _, _, rfl, { HJ.out with o18 := fun _ => ⟨(HDEP.out { on := 6, ground := Ground.data } (by simp) rfl), (HDEP.out { on := 17, ground := Ground.data } (by simp) rfl)⟩, o20 := fun e => ⟨rfl, (HJ.out.o20 e).2⟩, c18 := fun _ => rfl }⟩
                              · obtain rfl : v0 = .slice (some ⟨g, 0, none⟩) l.length l.length := HJ.out.c0 (HDEP.out { on := 0, ground := Ground.data } (by simp) rfl)
                                obtain rfl : v1 = .int .i64 (i : Int) := HJ.out.c1 (HDEP.out { on := 1, ground := Ground.data } (by simp) rfl)
                                go_simp
                                exact HK.out _ _ ⟨_, _, _, _, _, _, _, _, _, _, _, _, _, _, _, _, _, _, _, _, rfl, { HJ.out with o20 := fun e => ⟨(HJ.out.o20 e).1, rfl⟩, c19 := fun _ => rfl }⟩
                              · obtain rfl : v19 = .pointer (some ⟨g, i, none⟩) := HJ.out.c19 (HDEP.out { on := 19, ground := Ground.data } (by simp) rfl)
                                obtain rfl : v18 = .bool false := HJ.out.c18 (HDEP.out { on := 18, ground := Ground.data } (by simp) rfl)
                                obtain rfl := HJ.out.wn HD.out
                                go_simp
                                exact HK.out _ _ ⟨_, _, _, _, _, _, _, _, _, _, _, _, _, _, _, _, _, _, _, _, rfl, { HJ.out with o20 := fun _ => ⟨(HDEP.out { on := 18, ground := Ground.data } (by simp) rfl), (HDEP.out { on := 19, ground := Ground.data } (by simp) rfl)⟩, wn := fun h => (by cases h), ws := fun _ => rfl }⟩
                            · intro d a W hd hJ
                              obtain ⟨v0, v1, v2, v3, v4, v5, v6, v7, v8, v9, v10, v11, v12, v13, v14, v15, v16, v17, v18, v19, rfl, hj⟩ := hJ
                              obtain rfl := hj.ws (hd 20 (by decide))
                              clear hj hd
                              go_wp2
                              go_roundw
                              case rel => exact ⟨i + 1, by omega, by go_num, HE.out.drew, (HSL.out _).drew, (HBS.out _).drew⟩
                              case measure => first | (simp [intOf]; done) | (simp [intOf]; omega)
                        · have HE := Lib.hid (show Own (wr.setCell ⟨g, i, none⟩ (.bool true)) g 4 1 encBo (.slice (some ⟨g, 0, none⟩) l.length l.length) (mkP l q L0 (i + 1)) by rw [← HNX.out]; exact HSET.out true)
                          have hcd : wr.drew.cell? _ = _ := hcc
                          have hsd : wr.drew.cell? _ = _ := hs0
                          have hyd : wr.drew.cell? _ = _ := hy1
                          have hfd : wr.drew.frozen? _ = _ := hfz
                          go_wp2_with fail
                          refine wp_region_inv (by kernel_rfl) (by kernel_rfl) (fun a0 d a W => ∃ v0 v1 v2 v3 v4 v5 v6 v7 v8 v9 v10 v11 v12 v13 v14 v15 v16 v17 v18 v19 : Value, a = ⟨#[.slice (some ⟨b, o, none⟩) l.length c, .slice RA roots.length rc, undef, undef, .slice none 0 0, .slice (some ⟨w.heap.size, 0, none⟩) 0 0, .slice (some ⟨g, 0, none⟩) l.length l.length, .int .i64 ((m : Int) + 1), .int .i64 (k : Int), .slice (some ⟨b7, o7, none⟩) en.length lc, .bool true, .int .i64 (j : Int), .int .i64 (i : Int), undef, .slice (some ⟨w.heap.size, 0, none⟩) 0 0, .slice (some ⟨b, o, none⟩) l.length c, .bool true, .bool false, undef, .slice (some ⟨b, o, none⟩) l.length c, .int .i64 (l.length : Int), .slice (some ⟨g, 0, none⟩) l.length l.length, .int .i64 ((m : Int) + 1), .slice (some ⟨b, o, none⟩) l.length c, .int .i64 (l.length : Int), .bool true, u26, u27, .int .i64 (k : Int), .slice (some ⟨b, o, none⟩) l.length c, .int .i64 (l.length : Int), .bool true, u32, u33, .int .i64 ((m : Int) + 1), .bool false, u36, u37, u38, u39, u40, u41, u42, u43, u44, u45, .tuple #[.slice (some ⟨b7, o7, none⟩) en.length lc, .bool true], .slice (some ⟨b, o, none⟩) l.length c, .int .i64 (k : Int), .pointer (some ⟨b, o + k * 2, none⟩), .pointer (some ⟨b, o + k * 2 + 1, none⟩), .string q2, .tuple #[.slice (some ⟨b7, o7, none⟩) en.length lc, .bool true], .slice (some ⟨b7, o7, none⟩) en.length lc, .bool true, .int .i64 (j : Int), .slice (some ⟨b7, o7, none⟩) en.length lc, .int .i64 (en.length : Int), .bool true, .bool true, .slice (some ⟨g, 0, none⟩) l.length l.length, .int .i64 (k : Int), .pointer (some ⟨g, k, none⟩), .bool true, .bool true, .bool true, .bool true, .bool true, u68, u69, .int .i64 (i : Int), .slice (some ⟨b, o, none⟩) l.length c, .int .i64 (l.length : Int), .bool true, u74, u75, v0, v1, v2, v3, v4, v5, v6, v7, v8, v9, v10, v11, v12, v13, v14, v15, v16, v17, v18, v19, undef, undef, undef, undef, undef, undef, undef, undef, undef, undef, undef, undef, undef, undef, undef, undef, undef, undef, undef], []⟩ ∧ ReJ wr ⟨g, i, none⟩ (reV (.slice (some ⟨g, 0, none⟩) l.length l.length) (.int .i64 (i : Int)) (.slice (some ⟨g, 0, none⟩) l.length l.length) (.int .i64 (i : Int)) (.pointer (some ⟨g, i, none⟩)) (.bool true) (.bool true) (undef) (undef) (undef) (undef) (undef) (undef) (undef) (undef) (undef) (undef) (undef) (.bool true) (.pointer (some ⟨g, i, none⟩))) true d v0 v1 v2 v3 v4 v5 v6 v7 v8 v9 v10 v11 v12 v13 v14 v15 v16 v17 v18 v19 W) ?_ ?_ ?_
                          · exact ⟨_, _, _, _, _, _, _, _, _, _, _, _, _, _, _, _, _, _, _, _, rfl, ⟨nofun, nofun, nofun, nofun, nofun, nofun, nofun, nofun, nofun, nofun, nofun, nofun, nofun, nofun, nofun, nofun, nofun, nofun, nofun, nofun, nofun, nofun, nofun, nofun, fun _ => rfl, nofun⟩⟩
                          · refine ⟨?_, ?_, ?_, ?_, ?_, ?_, ?_, ?_, ?_, ?_, ?_, ?_, ?_, ?_, ?_, ?_, ?_, ?_, ?_, ?_, ?_, trivial⟩
                            all_goals
                              intro d a W K hd hdep hJ hK
                              obtain ⟨v0, v1, v2, v3, v4, v5, v6, v7, v8, v9, v10, v11, v12, v13, v14, v15, v16, v17, v18, v19, rfl, hj⟩ := hJ
                              have HJ := Lib.hid hj
                              have HK := Lib.hid hK
                              have HD := Lib.hid hd
                              have HDEP := Lib.hid hdep
                              clear hj hK hd hdep
                            · go_simp
                              exact HK.out _ _ ⟨_, _, _, _, _, _, _, _, _, _, _, _, _, _, _, _, _, _, _, _, rfl, { HJ.out with c0 := fun _ => rfl }⟩
                            · go_simp
                              exact HK.out _ _ ⟨_, _, _, _, _, _, _, _, _, _, _, _, _, _, _, _, _, _, _, _, rfl, { HJ.out with c1 := fun _ => rfl }⟩
                            · go_simp
                              exact HK.out _ _ ⟨_, _, _, _, _, _, _, _, _, _, _, _, _, _, _, _, _, _, _, _, rfl, { HJ.out with c2 := fun _ => rfl }⟩
                            · go_simp
                              exact HK.out _ _ ⟨_, _, _, _, _, _, _, _, _, _, _, _, _, _, _, _, _, _, _, _, rfl, { HJ.out with c3 := fun _ => rfl }⟩
                            · obtain rfl : v2 = .slice (some ⟨g, 0, none⟩) l.length l.length := HJ.out.c2 (HDEP.out { on := 2, ground := Ground.data } (by simp) rfl)
                              obtain rfl : v3 = .int .i64 (i : Int) := HJ.out.c3 (HDEP.out { on := 3, ground := Ground.data } (by simp) rfl)
                              go_simp
                              exact HK.out _ _ ⟨_, _, _, _, _, _, _, _, _, _, _, _, _, _, _, _, _, _, _, _, rfl, { HJ.out with c4 := fun _ => rfl }⟩
                            · obtain rfl : v4 = .pointer (some ⟨g, i, none⟩) := HJ.out.c4 (HDEP.out { on := 4, ground := Ground.data } (by simp) rfl)
                              have h20 : d 20 = false := by
                                cases e : d 20
                                · rfl
                                · have h : d 5 = true := by exact HJ.out.o6 (HJ.out.o18 (HJ.out.o20 e).1).1
                                  rw [HD.out] at h; cases h
                              obtain rfl := HJ.out.wn h20
                              go_simp
                              exact HK.out _ _ ⟨_, _, _, _, _, _, _, _, _, _, _, _, _, _, _, _, _, _, _, _, rfl, { HJ.out with o6 := fun _ => rfl, c5 := fun _ => rfl }⟩
                            · obtain rfl : v5 = .bool true := HJ.out.c5 (HDEP.out { on := 5, ground := Ground.data } (by simp) rfl)
                              go_simp
                              exact HK.out _ _ ⟨_, _, _, _, _, _, _, _, _, _, _, _, _, _, _, _, _, _, _, _, rfl, { HJ.out with o6 := fun _ => (HDEP.out { on := 5, ground := Ground.data } (by simp) rfl), o18 := fun e => ⟨rfl, (HJ.out.o18 e).2⟩, c6 := fun _ => rfl }⟩
                            · obtain rfl : v6 = .bool true := HJ.out.c6 (HDEP.out { on := 6, ground := Ground.guard } (by simp) rfl)
                              go_simp
                              exact HK.out _ _ ⟨_, _, _, _, _, _, _, _, _, _, _, _, _, _, _, _, _, _, _, _, rfl, { HJ.out with c7 := fun _ => rfl }⟩
                            · obtain rfl : v6 = .bool true := HJ.out.c6 (HDEP.out { on := 6, ground := Ground.guard } (by simp) rfl)
                              go_simp
                              exact HK.out _ _ ⟨_, _, _, _, _, _, _, _, _, _, _, _, _, _, _, _, _, _, _, _, rfl, { HJ.out with c8 := fun _ => rfl }⟩
                            · obtain rfl : v6 = .bool true := HJ.out.c6 (HDEP.out { on := 6, ground := Ground.guard } (by simp) rfl)
                              go_simp
                              exact HK.out _ _ ⟨_, _, _, _, _, _, _, _, _, _, _, _, _, _, _, _, _, _, _, _, rfl, { HJ.out with c9 := fun _ => rfl }⟩
                            · obtain rfl : v6 = .bool true := HJ.out.c6 (HDEP.out { on := 6, ground := Ground.guard } (by simp) rfl)
                              go_simp
                              exact HK.out _ _ ⟨_, _, _, _, _, _, _, _, _, _, _, _, _, _, _, _, _, _, _, _, rfl, { HJ.out with c10 := fun _ => rfl }⟩
                            · obtain rfl : v6 = .bool true := HJ.out.c6 (HDEP.out { on := 6, ground := Ground.guard } (by simp) rfl)
                              go_simp
                              exact HK.out _ _ ⟨_, _, _, _, _, _, _, _, _, _, _, _, _, _, _, _, _, _, _, _, rfl, { HJ.out with o17 := fun e => ⟨(HJ.out.o17 e).1, rfl⟩, c11 := fun _ => rfl }⟩
                            · obtain rfl : v6 = .bool true := HJ.out.c6 (HDEP.out { on := 6, ground := Ground.guard } (by simp) rfl)
                              go_simp
                              exact HK.out _ _ ⟨_, _, _, _, _, _, _, _, _, _, _, _, _, _, _, _, _, _, _, _, rfl, { HJ.out with c12 := fun _ => rfl }⟩
                            · obtain rfl : v6 = .bool true := HJ.out.c6 (HDEP.out { on := 6, ground := Ground.guard } (by simp) rfl)
                              go_simp
                              exact HK.out _ _ ⟨_, _, _, _, _, _, _, _, _, _, _, _, _, _, _, _, _, _, _, _, rfl, { HJ.out with c13 := fun _ => rfl }⟩
                            · obtain rfl : v6 = .bool true := HJ.out.c6 (HDEP.out { on := 6, ground := Ground.guard } (by simp) rfl)
                              go_simp
                              exact HK.out _ _ ⟨_, _, _, _, _, _, _, _, _, _, _, _, _, _, _, _, _, _, _, _, rfl, { HJ.out with c14 := fun _ => rfl }⟩
                            · obtain rfl : v6 = .bool true := HJ.out.c6 (HDEP.out { on := 6, ground := Ground.guard } (by simp) rfl)
                              go_simp
                              exact HK.out _ _ ⟨_, _, _, _, _, _, _, _, _, _, _, _, _, _, _, _, _, _, _, _, rfl, { HJ.out with c15 := fun _ => rfl }⟩
                            · obtain rfl : v6 = .bool true := HJ.out.c6 (HDEP.out { on := 6, ground := Ground.guard } (by simp) rfl)
                              go_simp
                              exact HK.out _ _ ⟨_, _, _, _, _, _, _, _, _, _, _, _, _, _, _, _, _, _, _, _, rfl, { HJ.out with o17 := fun e => ⟨rfl, (HJ.out.o17 e).2⟩, c16 := fun _ => rfl }⟩
                            · obtain rfl : v6 = .bool true := HJ.out.c6 (HDEP.out { on := 6, ground := Ground.guard } (by simp) rfl)
                              go_simp
                              exact HK.out _ _ ⟨_, _, _, _, _, _, _, _, _, _, _, _, _, _, _, _, _, _, _, _, rfl, { HJ.out with o17 := fun _ => ⟨(HDEP.out { on := 16, ground := Ground.data } (by simp) rfl), (HDEP.out { on := 11, ground := Ground.data } (by simp) rfl)⟩, o18 := fun e => ⟨(HJ.out.o18 e).1, rfl⟩, c17 := fun _ => rfl }⟩
                            · obtain rfl : v6 = .bool true := HJ.out.c6 (HDEP.out { on := 6, ground := Ground.data } (by simp) rfl)
                              obtain rfl : v17 = undef := HJ.out.c17 (HDEP.out { on := 17, ground := Ground.data } (by simp) rfl)
                              go_simp
                              exact HK.out _ _ ⟨_, _, _, _, _, _, _, _, _, _, _, _, _, _, _, _, _, _, _, _, rfl, { HJ.out with o18 := fun _ => ⟨(HDEP.out { on := 6, ground := Ground.data } (by simp) rfl), (HDEP.out { on := 17, ground := Ground.data } (by simp) rfl)⟩, o20 := fun e => ⟨rfl, (HJ.out.o20 e).2⟩, c18 := fun _ => rfl }⟩
                            · obtain rfl : v0 = .slice (some ⟨g, 0, none⟩) l.length l.length := HJ.out.c0 (HDEP.out { on := 0, ground := Ground.data } (by simp) rfl)
                              obtain rfl : v1 = .int .i64 (i : Int) := HJ.out.c1 (HDEP.out { on := 1, ground := Ground.data } (by simp) rfl)
                              go_simp
                              exact HK.out _ _ ⟨_, _, _, _, _, _, _, _, _, _, _, _, _, _, _, _, _, _, _, _, rfl, { HJ.out with o20 := fun e => ⟨(HJ.out.o20 e).1, rfl⟩, c19 := fun _ => rfl }⟩
                            · obtain rfl : v19 = .pointer (some ⟨g, i, none⟩) := HJ.out.c19 (HDEP.out { on := 19, ground := Ground.data } (by simp) rfl)
                              obtain rfl : v18 = .bool true := HJ.out.c18 (HDEP.out { on := 18, ground := Ground.data } (by simp) rfl)
                              obtain rfl := HJ.out.wn HD.out
                              go_simp
                              exact HK.out _ _ ⟨_, _, _, _, _, _, _, _, _, _, _, _, _, _, _, _, _, _, _, _, rfl, { HJ.out with o20 := fun _ => ⟨(HDEP.out { on := 18, ground := Ground.data } (by simp) rfl), (HDEP.out { on := 19, ground := Ground.data } (by simp) rfl)⟩, wn := fun h => (by cases h), ws := fun _ => rfl }⟩
                          · intro d a W hd hJ
                            obtain ⟨v0, v1, v2, v3, v4, v5, v6, v7, v8, v9, v10, v11, v12, v13, v14, v15, v16, v17, v18, v19, rfl, hj⟩ := hJ
                            obtain rfl := hj.ws (hd 20 (by decide))
                            clear hj hd
                            go_wp2
                            go_roundw
                            case rel => exact ⟨i + 1, by omega, by go_num, HE.out.drew, (HSL.out _).drew, (HBS.out _).drew⟩
                            case measure => first | (simp [intOf]; done) | (simp [intOf]; omega)
                      · have hil' : ¬ (i : Int) < (l.length : Int) := by omega
                        obtain rfl : i = l.length := by omega
                        have HOE := Lib.hid (show Own wr g 4 1 encBo (.slice (some ⟨g, 0, none⟩) l.length l.length) (markL l ((en.map (·.2)).take (j + 1)) (RK k)) by
                          rw [HNJ.out, ← mkP_all HLJ.out]; exact HOI.out)
                        go_wp2
                        go_roundw
                        case rel => exact ⟨j + 1, by omega, by go_num, HOE.out, HEI.out, HBI.out⟩
                        case measure => first | (simp [intOf]; done) | (simp [intOf]; omega)
                  · have hjl' : ¬ (j : Int) < (en.length : Int) := by omega
                    have HOE := Lib.hid (show Own wr g 4 1 encBo (.slice (some ⟨g, 0, none⟩) l.length l.length) (RK (k + 1)) by
                      rw [HN.out]
                      have h := HOJ.out
                      rwa [List.take_of_length_le (by rw [List.length_map]; omega)] at h)
                    go_wp2
                    go_roundw
                    case rel => first | exact ⟨k + 1, by omega, by go_num, HOE.out, HBJ.out⟩ | exact ⟨k + 1, by omega, by omega, HOE.out⟩ | exact ⟨k + 1, by omega, by go_num, HOE.out⟩
                    case measure => first | (simp [intOf]; done) | (simp [intOf]; omega)
            · have hlt' : ¬ (k : Int) < (l.length : Int) := by omega
              obtain rfl : k = l.length := by omega
              have HFE := Lib.hid (show Own wr g 4 1 encBo (.slice (some ⟨g, 0, none⟩) l.length l.length) (afterR l roots (m + 1)) by
                have h := HOK.out
                rwa [HFIN.out] at h)
              go_wp2
              go_roundw
              case rel => exact ⟨m + 2, by omega, by go_num, ⟨fun h => by omega, fun m2 h => by (obtain rfl : m2 = m + 1 := by omega); exact HFE.out⟩, HBK.out⟩
              case measure => first | (simp [intOf]; done) | (simp [intOf]; omega)
      · have hle' : ¬ (rd : Int) ≤ (l.length : Int) := by omega
        obtain rfl : rd = l.length + 1 := by omega
        have HOR := Lib.hid (show Own wr g 4 1 encBo (.slice (some ⟨g, 0, none⟩) l.length l.length) (reachR l roots) from HF.out.2 l.length rfl)
        have HRL := Lib.hid (show (reachR l roots).length = l.length from HLA.out l.length)
        have HOO := Lib.hid (HO.out.below (by rw [HGE.out]; exact HBR.out))
        have HBO := Lib.hid (HBW.out.trans (HBR.out.mono hgw.out))
        have HAP := Lib.hid (show Apart (some ⟨g, 0, none⟩) (.slice (some ⟨w.heap.size, 0, none⟩) 0 0) from fun b o e h => by
          injection e with e; injection e with e
          have h : some w.heap.size = some b := h
          injection h with h
          have := hgw2.out
          omega)
        have HGL := Lib.hid (show LtA (some ⟨g, 0, none⟩) wr.heap.size from fun b o e => by
          injection e with e; injection e with e
          subst e
          exact (HOR.out.blk g rfl).2)
        have HSR := Lib.hid HOR.out.sl'
        have HNX := Lib.hid (fun k => reachL_next (s := l) (inn := reachR l roots) (k := k))
        have HLL := Lib.hid (fun k => reachL_len l (reachR l roots) k)
        generalize reachR l roots = R at *
        generalize hRLf : reachL l R = RLf at *
        have HZ0 := Lib.hid (show RLf 0 = [] by rw [← hRLf]; rfl)
        clear hRLf
        go_wp2_with fail
        go_loopw [5, 13] (fun vo vk wk => ∃ (k : Nat), k ≤ l.length ∧ vk = .int .i64 k ∧ Hid (Own wk w.heap.size 3 1 encI vo (RLf k)) ∧ Hid (Below w.heap.size w wk) ∧ Hid (Sl wk encBo 1 (some ⟨g, 0, none⟩) R) ∧ Hid (Apart (some ⟨g, 0, none⟩) vo) ∧ Hid (LtA (some ⟨g, 0, none⟩) wk.heap.size)) (fun _ vk _ => l.length - (intOf vk).toNat)
        case atStart => exact ⟨0, Nat.zero_le _, rfl, (by rw [HZ0.out]; exact HOO.out), HBO.out, HSR.out, HAP.out, HGL.out⟩
        case round =>
          obtain ⟨k, hk, rfl, HOK, HBK, HSK, HAK, HGK⟩ := hrel
          by_cases hlt : k < l.length
          · have hlt' : (k : Int) < (l.length : Int) := by omega
            have hkR : k < R.length := by rw [HRL.out]; exact hlt
            obtain ⟨gb, go_, e3, hcb⟩ := HSK.out.getT1 hkR
            injection e3 with e3; injection e3 with e4 e5
            subst e4; subst e5
            simp only [Nat.zero_add] at hcb
            have hN := HNX.out k
            rw [getB_at hkR, getD_pc hlt] at hN
            have hLk := HLL.out k
            obtain ⟨b, o, rfl, hc0, _⟩ := (HS.out.below HBK.out).getP hlt
            generalize l[k] = y at *
            obtain ⟨y1, y2⟩ := y
            simp only at *
            cases hb : R[k]
            · rw [hb] at hN hcb
              have HN := Lib.hid (show RLf (k + 1) = RLf k by rw [hN]; simp)
              clear hN hb
              go_wp2
              go_roundw
              case rel => exact ⟨k + 1, by omega, by go_num, (by rw [HN.out]; exact HOK.out), HBK.out, HSK.out, HAK.out, HGK.out⟩
              case measure => first | (simp [intOf]; done) | (simp [intOf]; omega)
            · rw [hb] at hN hcb
              have HN := Lib.hid (show RLf (k + 1) = RLf k ++ [y1] by rw [hN]; simp)
              have hLk2 : (RLf k).length ≤ 16777216 := by omega
              clear hN hb
              generalize RLf k = acc at *
              go_wp2_with (at_builtin; refine app_int3 (w0 := w) (y := y1) rfl rfl (by rfl) (by rfl) HOK.out HBK.out hLk2 ?_; intro v6 w6 hown6 hb6 hg6 hk6; have HO6 := Lib.hid hown6; have HB6 := Lib.hid hb6; have HS6 := Lib.hid (HSK.out.grew hg6 HAK.out); have HA6 := Lib.hid (HAK.out.kin HGK.out hk6); have HG6 := Lib.hid (HGK.out.mono hg6.size); clear hown6 hb6 hg6 hk6)
              go_roundw
              case rel => exact ⟨k + 1, by omega, by go_num, (by rw [HN.out]; exact HO6.out), HB6.out, HS6.out, HA6.out, HG6.out⟩
              case measure => first | (simp [intOf]; done) | (simp [intOf]; omega)
          · have hlt' : ¬ (k : Int) < (l.length : Int) := by omega
            obtain rfl : k = l.length := by omega
            go_wp2
            go_ret
            exact ⟨_, rfl, HOK.out, HBK.out⟩
set_option maxHeartbeats 4000000 in
set_option maxRecDepth 100000 in
theorem sSweepStore_any (A RA : Option Addr) (c rc : Nat) (l : List Pc) (roots : List Int) (w : World) (hs : Sl w encP 2 A l) (hl : l.length ≤ 16777216) (hf : FitP l) (hr : Sl w encI 1 RA roots) (hrl : roots.length ≤ 16777216) :
    Calls Tryz.prog 52 #[.slice A l.length c, .slice RA roots.length rc] w (OwnRes 38 2 encP (sweepR l roots) w) := by
  have HS := Lib.hid hs
  have HRT := Lib.hid hr
  have HRO := Lib.hid (fun w h h2 => sReachOf_any A RA c rc l roots w h hl hf h2 hrl)
  have HO0 := Lib.hid (Own.made (w := w) (enc := encP) (E := 38) (size := 2) (Nat.le_refl w.heap.size))
  have HB0 := Lib.hid ((Below.refl w.heap.size w).alloc (Nat.le_refl _) (.cells #[] 38))
  have hrch : (if storeV l then reachL l (reachR l roots) l.length else []).length ≤ l.length := by
    split
    · exact reachL_len _ _ _
    · simp
  have hsw : sweepR l roots = l.filter fun p => (if storeV l then reachL l (reachR l roots) l.length else []).contains p.1 := by
    unfold sweepR
    split
    · rfl
    · exact (List.filter_eq_nil_iff.2 (by simp)).symm
  rw [hsw]
  clear hs hr hsw
  generalize hswl : (l.filter fun p => (if storeV l then reachL l (reachR l roots) l.length else []).contains p.1) = SWL
  have HSWL := Lib.hid hswl
  clear hswl
  generalize (if storeV l then reachL l (reachR l roots) l.length else []) = RCH at *
  go_enter Tryz.func52, Tryz.ntmps52
  go_wp2_with fail
  refine (HRO.out _ (HS.out.alloc _) (HRT.out.alloc _)).mono ?_
  rintro e w1 ⟨v1, rfl, hown, hb⟩
  have HB1 := Lib.hid (HB0.out.trans (hb.mono (by simp)))
  have HO1 := Lib.hid (HO0.out.below hb)
  obtain ⟨XA, xc, rfl, hle1, hs1, _⟩ := hown.sl
  have HAX := Lib.hid (hown.apart (v := .slice (some ⟨w.heap.size, 0, none⟩) 0 0) (by intro g hg; have hg : some w.heap.size = some g := hg; injection hg with hg; subst hg; simp))
  have HLX := Lib.hid hown.ltA
  have HX1 := Lib.hid hs1
  clear hown hb hs1
  go_wp2_with fail
  go_loopw [5, 7] (fun vo vk wk => ∃ (k : Nat), k ≤ l.length ∧ vk = .int .i64 k ∧ Hid (Own wk w.heap.size 38 2 encP vo ((l.take k).filter fun p => RCH.contains p.1)) ∧ Hid (Below w.heap.size w wk) ∧ Hid (Sl wk encI 1 XA RCH) ∧ Hid (Apart XA vo) ∧ Hid (LtA XA wk.heap.size)) (fun _ vk _ => l.length - (intOf vk).toNat)
  case atStart => exact ⟨0, Nat.zero_le _, rfl, HO1.out, HB1.out, HX1.out, HAX.out, HLX.out⟩
  case round =>
    obtain ⟨k, hk, rfl, HOK, HBK, HSK, HAK, HGK⟩ := hrel
    by_cases hlt : k < l.length
    · have hlt' : (k : Int) < (l.length : Int) := by omega
      obtain ⟨b, o, rfl, hc0, hc1⟩ := (HS.out.below HBK.out).getP hlt
      have hNX : (l.take (k + 1)).filter (fun p => RCH.contains p.1) = (l.take k).filter (fun p => RCH.contains p.1) ++ if RCH.contains l[k].1 then [l[k]] else [] := by
        rw [List.take_succ_eq_append_getElem hlt, List.filter_append]
        cases h : RCH.contains l[k].1 <;> (rw [List.filter_cons]; simp only [h]; rfl)
      have hfl : ((l.take k).filter fun p => RCH.contains p.1).length ≤ 16777216 := by
        have := List.length_filter_le (fun p : Pc => RCH.contains p.1) (l.take k)
        rw [List.length_take] at this; omega
      have hL19 := sl19Has_any XA xc RCH l[k].1
      generalize l[k] = y at *
      generalize (l.take k).filter (fun p => RCH.contains p.1) = acc at *
      obtain ⟨y1, y2⟩ := y
      simp only at *
      cases hb : RCH.contains y1
      · rw [hb] at hNX hL19
        have HN := Lib.hid (show (l.take (k + 1)).filter (fun p => RCH.contains p.1) = acc by rw [hNX]; simp)
        have HL19 := Lib.hid hL19
        clear hNX hb hL19
        go_wp2_with (go_at_call 83; refine (HL19.out _ HSK.out (by omega)).mono ?_; rintro e w' ⟨rfl, rfl⟩)
        go_roundw
        case rel => exact ⟨k + 1, by omega, by go_num, (by rw [HN.out]; exact HOK.out), HBK.out, HSK.out, HAK.out, HGK.out⟩
        case measure => first | (simp [intOf]; done) | (simp [intOf]; omega)
      · rw [hb] at hNX hL19
        have HN := Lib.hid (show (l.take (k + 1)).filter (fun p => RCH.contains p.1) = acc ++ [(y1, y2)] by rw [hNX]; simp)
        have HL19 := Lib.hid hL19
        clear hNX hb hL19
        go_wp2_with (first
          | (go_at_call 83; refine (HL19.out _ HSK.out (by omega)).mono ?_; rintro e w' ⟨rfl, rfl⟩)
          | (at_builtin; refine app_pc3 (w0 := w) (y := (y1, y2)) rfl rfl (by rfl) (by rfl) HOK.out HBK.out hfl ?_; intro v6 w6 hown6 hb6 hg6 hk6; have HO6 := Lib.hid hown6; have HB6 := Lib.hid hb6; have HS6 := Lib.hid (HSK.out.grew hg6 HAK.out); have HA6 := Lib.hid (HAK.out.kin HGK.out hk6); have HG6 := Lib.hid (HGK.out.mono hg6.size); clear hown6 hb6 hg6 hk6))
        go_roundw
        case rel => exact ⟨k + 1, by omega, by go_num, (by rw [HN.out]; exact HO6.out), HB6.out, HS6.out, HA6.out, HG6.out⟩
        case measure => first | (simp [intOf]; done) | (simp [intOf]; omega)
    · have hlt' : ¬ (k : Int) < (l.length : Int) := by omega
      have hkl : k = l.length := by omega
      subst hkl
      have HN := Lib.hid (show l.take l.length = l from List.take_length)
      go_wp2
      go_ret
      have h := HOK.out
      rw [HN.out, HSWL.out] at h
      exact ⟨_, rfl, h, HBK.out⟩
end Go.Proofs.YtokelopllbaikaaGreatDoor
