/- Repaired pieces, walked: the reference. -/
import Derived.Test.YtbefbenihahdnaaRw
set_option linter.unusedVariables false
namespace Go.Proofs.Ytbefbenihahdnaa
open Go.RowKit

def PBlk (w : World) (g : Nat) (p : Pc) : Prop := w.heap[g]? = some (.cells #[.int .i64 p.1, .string p.2] 30 (0, 0))
section
variable {w w' : World} {g : Nat} {p : Pc}
theorem PBlk.c0 (h : PBlk w g p) : w.cell? ⟨g, 0, none⟩ = some (.int .i64 p.1) := by rw [cell_of_row w g 0 _ _ _ h]; rfl
theorem PBlk.c1 (h : PBlk w g p) : w.cell? ⟨g, 1, none⟩ = some (.string p.2) := by rw [cell_of_row w g 1 _ _ _ h]; rfl
theorem PBlk.free (h : PBlk w g p) (j : Nat) : w.frozen? ⟨g, j, none⟩ = false := frozen_of_row w g j _ _ h
theorem PBlk.lt (h : PBlk w g p) : g < w.heap.size := (Array.getElem?_eq_some_iff.1 h).1
theorem PBlk.below (h : PBlk w g p) (hb : Below w.heap.size w w') : PBlk w' g p := (hb.block g h.lt).trans h
theorem PBlk.set (h : PBlk w g p) (q : Pc) : PBlk ((w.setCell ⟨g, 0, none⟩ (.int .i64 q.1)).setCell ⟨g, 1, none⟩ (.string q.2)) g q := by
  have h1 := heap_setCell_same w g 0 _ _ (.int .i64 q.1) h
  have h2 := heap_setCell_same _ g 1 _ _ (.string q.2) h1
  unfold PBlk; rw [h2]; rfl
theorem PBlk.new (w : World) (p : Pc) : PBlk (w.alloc (.cells #[.int .i64 p.1, .string p.2] 30)) w.heap.size p := heap_alloc_new w _
end

theorem rep_next {copies : List Pc} {p P : Pc} {D : Int} (h : repair1 copies p = (P, D)) (hP : pieceR P = false) : P = p ∧ D = 0 ∧ goodCopy p.1 copies = none := by
  unfold repair1 at h
  cases hp : pieceR p
  · rw [if_neg (by simp [hp])] at h
    cases hg : goodCopy p.1 copies with
    | none => rw [hg] at h; injection h with h1 h2; exact ⟨h1.symm, h2.symm, rfl⟩
    | some c =>
      rw [hg] at h; injection h with h1 h2
      have := (goodCopy_some hg).2
      rw [h1, hP] at this; cases this
  · rw [if_pos hp] at h; injection h with h1 h2
    rw [h1, hP] at hp; cases hp
theorem rep_stop {copies : List Pc} {p P : Pc} {D : Int} {j : Nat} (h : repair1 (copies.take j) p = (P, D)) (hP : pieceR P = true) : repair1 copies p = (P, D) := by
  unfold repair1 at h
  cases hp : pieceR p
  · rw [if_neg (by simp [hp])] at h
    cases hg : goodCopy p.1 (copies.take j) with
    | none => rw [hg] at h; injection h with h1 h2; rw [← h1, hp] at hP; cases hP
    | some c =>
      rw [hg] at h; injection h with h1 h2
      rw [repair1_some hp (goodCopy_prefix hg), h1, h2]
  · rw [if_pos hp] at h; rw [repair1_right hp]; exact h
theorem rep_step {copies : List Pc} {p : Pc} {j : Nat} (hj : j < copies.length) (hp : pieceR p = false) (hn : goodCopy p.1 (copies.take j) = none) :
    repair1 (copies.take (j + 1)) p = if copies[j].1 == p.1 && pieceR copies[j] then (copies[j], 1) else (p, 0) := by
  have h := goodCopy_take (p := p.1) hj
  rw [hn, Option.none_or] at h
  split
  · rename_i hc
    rw [if_pos hc] at h
    exact repair1_some hp h
  · rename_i hc
    rw [if_neg hc] at h
    exact repair1_none hp h
theorem rep_zero (copies : List Pc) (p : Pc) : repair1 (copies.take 0) p = (p, 0) := by
  unfold repair1; split
  · rfl
  · rfl

section
variable {ops : Array Oper} {rest : List Oper} {o : Oper} {a : Act} {Q : Exit → Act → World → Prop} {w0 wr : World} {v : Value}
theorem app_pc2 {l : List Pc} {y : Pc} {s x : Operand} (hgd : o.guard = none) (ho : o.op = .call { callee := .builtin .append, args := #[s, x], argTypes := #[58, 58] })
    (hs : a.eval s = v) (hx : a.eval x = .slice (some ⟨wr.heap.size, 0, none⟩) 1 1)
    (hown : Own wr w0.heap.size 30 2 encP v l) (hb : Below w0.heap.size w0 wr) (hn : l.length ≤ 16777216)
    (h : ∀ v' w', Own w' w0.heap.size 30 2 encP v' (l ++ [y]) → Below w0.heap.size w0 w' → wpList Try.prog ops Q rest (a.put o.dst v') w') :
    wpList Try.prog ops Q (o :: rest) a (wr.alloc (.cells #[.int .i64 y.1, .string y.2] 30)) := app_pc hgd ho hs hx hown hb hn h
end
set_option maxHeartbeats 8000000 in
set_option maxRecDepth 100000 in
theorem sRepairPieces_any (A B : Option Addr) (c d : Nat) (l copies : List Pc) (w : World) (hs : Sl w encP 2 A l) (hs2 : Sl w encP 2 B copies) (hl : l.length ≤ 16777216) (hl2 : copies.length ≤ 16777216) (hf : FitP l) (hf2 : FitP copies) :
    Calls Try.prog 77 #[.slice A l.length c, .slice B copies.length d] w (RepR l copies w) := by
  have HS := Lib.hid hs
  have HS2 := Lib.hid hs2
  have HF := Lib.hid hf
  have HF2 := Lib.hid hf2
  clear hs hs2 hf hf2
  go_enter Try.func77, Try.ntmps77
  go_wp2
  go_loopw [6, 7, 8] (fun v sm si wr => ∃ (k : Nat) (M : Int) (acc : List Pc), k ≤ l.length ∧ si = .int .i64 k ∧ sm = .int .i64 M ∧ 0 ≤ M ∧ M ≤ k ∧ acc.length ≤ k ∧ Hid (M = many copies (l.take k)) ∧ Hid (acc = repairs copies (l.take k)) ∧ Hid (Own wr w.heap.size 30 2 encP v acc) ∧ Hid (Below w.heap.size w wr)) (fun _ _ si _ => l.length - (intOf si).toNat)
  case atStart => exact ⟨0, 0, [], Nat.zero_le _, rfl, rfl, by omega, by omega, Nat.le_refl _, rfl, rfl, Own.made (Nat.le_refl _), (Below.refl _ _).alloc (Nat.le_refl _) _⟩
  case round =>
    obtain ⟨k, M, acc, hk, rfl, rfl, hM0, hMk, hak, hM, hacc, HW, HB⟩ := hrel
    obtain ⟨wo, rfl⟩ : ∃ wo : World, wo = wr := ⟨_, rfl⟩
    by_cases hlt : k < l.length
    · obtain ⟨b, o, rfl, hc0, hc1⟩ := (HS.out.below HB.out).getP hlt
      have hfk := HF.out.at hlt
      have HMT := Lib.hid (many_take (copies := copies) hlt)
      have HRT := Lib.hid (repairs_take (copies := copies) hlt)
      generalize l[k] = p at *
      have HPN := Lib.hid (PBlk.new wo p)
      have HU := Lib.hid HW.out.up
      have HPF : Hid (p.2.size ≤ 16777216) := hfk
      clear hfk
      go_wp2_with fail
      clear hc0 hc1
      go_loopw [7, 10] (fun sm sj wr => ∃ (j : Nat) (P : Pc) (D : Int), j ≤ copies.length ∧ sj = .int .i64 j ∧ sm = .int .i64 (M + D) ∧ 0 ≤ D ∧ D ≤ 1 ∧ Hid (repair1 (copies.take j) p = (P, D)) ∧ Hid (P.2.size ≤ 16777216) ∧ Hid (PBlk wr wo.heap.size P) ∧ Hid (Only wo.heap.size (wo.alloc (.cells #[.int .i64 p.1, .string p.2] 30)) wr)) (fun _ sj _ => copies.length - (intOf sj).toNat)
      case atStart => exact ⟨0, p, 0, Nat.zero_le _, rfl, by rw [Int.add_zero], by omega, by omega, rep_zero _ _, HPF.out, HPN.out, Only.refl _ _⟩
      case round =>
        obtain ⟨j, P, D, hj, rfl, rfl, hD0, hD1, hrep, HPS, HPB, HO⟩ := hrel
        have hp0 := HPB.out.c0
        have hp1 := HPB.out.c1
        have hpl := HPB.out.lt
        -- what stands whichever way the inner loop is left
        have HBW : Hid (Below w.heap.size w wr) := by
          have h1 : Below w.heap.size wo wr := ((Below.refl w.heap.size wo).alloc HB.out.size _).trans ⟨HO.out.os, HO.out.tape, HO.out.output, HO.out.size, fun q hq => HO.out.block q (by have := HB.out.size; simp; omega) (by intro e; injection e with e; have := HB.out.size; omega)⟩
          exact HB.out.trans h1
        have HWW : Hid (Own wr w.heap.size 30 2 encP _ acc) := (HW.out.alloc _).apart HO.out (fun q hq => by have := HU.out q hq; omega)
        have hPR := sPieceRight_any P.1 P.2
        rw [show pieceR (P.1, P.2) = pieceR P from rfl] at hPR
        by_cases hjl : j < copies.length
        · cases hP : pieceR P
          · obtain ⟨rfl, rfl, hno⟩ := rep_next hrep.out hP
            rw [hP] at hPR
            have HPR := Lib.hid (fun w => hPR w HPS.out)
            have hst := rep_step hjl hP hno
            clear hPR hP hno hrep
            obtain ⟨b2, o2, rfl, hd0, hd1⟩ := (HS2.out.below HBW.out).getP hjl
            have hfj := HF2.out.at hjl
            have hQ := sPieceRight_any copies[j].1 copies[j].2
            generalize copies[j] = q at *
            rw [show pieceR (q.1, q.2) = pieceR q from rfl] at hQ
            go_wp2_with fail
            refine (HPR.out _).mono ?_
            rintro e w2 ⟨rfl, hb2⟩
            have hpb2 := HPB.out.below hb2
            have HP2 := Lib.hid hpb2
            have HB2 := Lib.hid (Below_then HBW.out hb2 (Nat.le_refl _))
            have HO2 := Lib.hid (HO.out.trans (Only.of_below hb2))
            have hd0 := Below_cells hb2 _ _ _ hd0
            have hd1 := Below_cells hb2 _ _ _ hd1
            have he0 := far_cell hpb2.c0
            have he1 := far_cell hpb2.c1
            have hg0 := far_cell hd0
            have hg1 := far_cell hd1
            clear hb2 hpb2 hp0 hp1 hd0 hd1 hpl HPR
            cases he : (q.1 == P.1)
            · rw [he, Bool.false_and, if_neg (by simp)] at hst
              have HST := Lib.hid hst
              clear hst hQ
              go_wp2
              refine wp_region_far (by kernel_rfl) (by kernel_rfl) ?_
              repeat (go_big_quiet_step (fail))
              refine wpQuiet_nil ?_
              intro _ hwF
              obtain ⟨pF, hwF⟩ := hwF
              subst hwF
              have HP3 := Lib.hid (HP2.out.below (far_below _ pF))
              have HO3 := Lib.hid (HO2.out.trans (Only.of_below (far_below _ pF)))
              generalize far _ pF = wF at *
              clear he0 he1 hg0 hg1
              go_wp2
              go_roundw
              case rel => exact ⟨j + 1, P, 0, by omega, by go_num, by rw [Int.add_zero], by omega, by omega, HST.out, HPS.out, HP3.out, HO3.out⟩
              case measure => simp [intOf]; omega
            · rw [he, Bool.true_and] at hst
              cases hqr : pieceR q
              · rw [hqr, if_neg (by simp)] at hst
                rw [hqr] at hQ
                have HST := Lib.hid hst
                have HQ := Lib.hid (fun w => hQ w hfj)
                clear hst hQ hqr
                go_wp2
                refine wp_region_far (by kernel_rfl) (by kernel_rfl) ?_
                repeat (go_big_quiet_step ((go_at_call 37; exact far_call (HQ.out _))))
                refine wpQuiet_nil ?_
                intro _ hwF
                obtain ⟨pF, hwF⟩ := hwF
                subst hwF
                have HP3 := Lib.hid (HP2.out.below (far_below _ pF))
                have HO3 := Lib.hid (HO2.out.trans (Only.of_below (far_below _ pF)))
                generalize far _ pF = wF at *
                clear he0 he1 hg0 hg1
                go_wp2
                go_roundw
                case rel => exact ⟨j + 1, P, 0, by omega, by go_num, by rw [Int.add_zero], by omega, by omega, HST.out, HPS.out, HP3.out, HO3.out⟩
                case measure => simp [intOf]; omega
              · rw [hqr, if_pos rfl] at hst
                rw [hqr] at hQ
                have HST := Lib.hid hst
                have HQ := Lib.hid (fun w => hQ w hfj)
                clear hst hQ hqr
                go_wp2
                refine wp_region_far (by kernel_rfl) (by kernel_rfl) ?_
                repeat (go_big_quiet_step ((go_at_call 37; exact far_call (HQ.out _))))
                refine wpQuiet_nil ?_
                intro _ hwF
                obtain ⟨pF, hwF⟩ := hwF
                subst hwF
                have HP3 := Lib.hid (HP2.out.below (far_below _ pF))
                have HO3 := Lib.hid (HO2.out.trans (Only.of_below (far_below _ pF)))
                have hk0 := hg0 pF
                have hk1 := hg1 pF
                clear he0 he1 hg0 hg1
                generalize far _ pF = wF at *
                have hm0 := HP3.out.c0
                have hm1 := HP3.out.c1
                have hn0 := HP3.out.free 0
                have hn1 := HP3.out.free 1
                have HP4 := Lib.hid (HP3.out.set q)
                have HO4 := Lib.hid ((HO3.out.setCell (p := ⟨wo.heap.size, 0, none⟩) rfl (.int .i64 q.1)).setCell (p := ⟨wo.heap.size, 1, none⟩) rfl (.string q.2))
                go_wp2
                go_roundw
                case rel => exact ⟨j + 1, q, 1, by omega, by go_num, rfl, by omega, by omega, HST.out, hfj, HP4.out, HO4.out⟩
                case measure => simp [intOf]; omega
          · rw [hP] at hPR
            have HPR := Lib.hid (fun w => hPR w HPS.out)
            have hr := rep_stop hrep.out hP
            have hmt := HMT.out
            have hrt := HRT.out
            rw [hr] at hmt hrt
            have HMT2 := Lib.hid hmt
            have HRT2 := Lib.hid hrt
            clear hPR hP hr hmt hrt hrep
            go_wp2_with fail
            refine (HPR.out _).mono ?_
            rintro e w2 ⟨rfl, hb2⟩
            have hpb2 := HPB.out.below hb2
            have HB2 := Lib.hid (Below_then HBW.out hb2 (Nat.le_refl _))
            have HW2 := Lib.hid (HWW.out.below hb2)
            have hq0 := hpb2.c0
            have hq1 := hpb2.c1
            clear hb2 hpb2 hp0 hp1 hpl
            go_wp2_with (at_builtin; refine app_pc2 rfl rfl rfl rfl HW2.out HB2.out (by omega) ?_; intro v1 w3 hown3 hb3; have HW3 := Lib.hid hown3; have HB3 := Lib.hid hb3; clear hown3 hb3)
            go_roundw
            case rel => exact ⟨k + 1, M + D, _, by omega, by go_num, rfl, by omega, by omega, by simp; omega, by show _ = _; rw [HMT2.out, ← hM.out], by show _ = _; rw [HRT2.out, ← hacc.out], HW3.out, HB3.out⟩
            case measure => simp [intOf]; omega
        · have hjj : j = copies.length := by omega
          subst hjj
          have hr := hrep.out
          rw [List.take_of_length_le (Nat.le_refl _)] at hr
          have hmt := HMT.out
          have hrt := HRT.out
          rw [hr] at hmt hrt
          have HMT2 := Lib.hid hmt
          have HRT2 := Lib.hid hrt
          clear hPR hr hmt hrt hrep
          go_wp2_with (at_builtin; refine app_pc2 rfl rfl rfl rfl HWW.out HBW.out (by omega) ?_; intro v1 w3 hown3 hb3; have HW3 := Lib.hid hown3; have HB3 := Lib.hid hb3; clear hown3 hb3)
          go_roundw
          case rel => exact ⟨k + 1, M + D, _, by omega, by go_num, rfl, by omega, by omega, by simp; omega, by show _ = _; rw [HMT2.out, ← hM.out], by show _ = _; rw [HRT2.out, ← hacc.out], HW3.out, HB3.out⟩
          case measure => simp [intOf]; omega
    · go_wp2
      go_ret2
      have hkl : k = l.length := by omega
      subst hkl
      have h := hM.out
      rw [List.take_of_length_le (Nat.le_refl _)] at h
      have h2 := hacc.out
      rw [List.take_of_length_le (Nat.le_refl _)] at h2
      refine ⟨_, ?_, by have h3 := HW.out; rw [h2] at h3; exact h3, HB.out⟩
      rw [← h]; rfl
end Go.Proofs.Ytbefbenihahdnaa
