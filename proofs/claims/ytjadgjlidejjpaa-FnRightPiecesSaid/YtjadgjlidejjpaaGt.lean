/- textOf and GetText of the program, walked. -/
import Derived.Test.YtjadgjlidejjpaaBs
set_option linter.unusedVariables false
namespace Go.Proofs.Ytjadgjlidejjpaa
open Go.RowKit

def GtRes (r : Option ByteArray) (w : World) (e : Ending) (w' : World) : Prop := e = .returned (.tuple #[.string (r.getD ⟨#[]⟩), .bool r.isSome]) ∧ Below w.heap.size w w'
set_option maxHeartbeats 4000000 in
set_option maxRecDepth 100000 in
theorem itextOf_any (A : Option Addr) (c : Nat) (l : List Pc) (x : Int) (w : World) (hs : Sl w encP 2 A l) (hl : l.length ≤ 16777216) (hso : Sorted l) :
    Calls Try.prog 41 #[.slice A l.length c, .int .i64 x] w (GtRes (getT l x) w) := by
  have hX := fun w h => findPiece_any A c l x w h hl hso
  have HS := Lib.hid hs
  have hg := getT_here hso (p := x)
  clear hs
  unfold FpRes at hX
  unfold GtRes
  rw [hg]
  cases hh : hereP l x
  · rw [hh] at hX
    have HX := Lib.hid hX
    clear hX hg hso hh
    go_enter Try.func41, Try.ntmps41
    go_wp2_with fail
    refine (HX.out _ HS.out).mono ?_
    rintro e w1 ⟨rfl, hb⟩
    have HB := Lib.hid hb
    clear hb
    go_wp2
    go_ret2
    exact ⟨rfl, HB.out⟩
  · have hlt : below l x < l.length := by unfold hereP at hh; simp at hh; exact hh.1
    rw [hh] at hX
    rw [getD_pc hlt]
    have HX := Lib.hid hX
    have HG := Lib.hid (fun (w : World) (h : Sl w encP 2 A l) => h.getP hlt)
    generalize l[below l x] = q at *
    obtain ⟨a, t⟩ := q
    simp only at *
    generalize below l x = B at *
    obtain ⟨b, o, rfl, _, _⟩ := HG.out w HS.out
    clear hX hg hso hh
    go_enter Try.func41, Try.ntmps41
    go_wp2_with fail
    refine (HX.out _ HS.out).mono ?_
    rintro e w1 ⟨rfl, hb⟩
    have HB := Lib.hid hb
    obtain ⟨b', o', e', hc0, hc1⟩ := HG.out _ (HS.out.below hb)
    have hbb : b' = b ∧ o' = o := by injection e' with e'; injection e' with e1 e2; exact ⟨e1.symm, e2.symm⟩
    obtain ⟨rfl, rfl⟩ := hbb
    clear hb e'
    go_wp2
    go_ret2
    exact ⟨rfl, HB.out⟩
set_option maxHeartbeats 4000000 in
set_option maxRecDepth 100000 in
theorem iGetText_any (A : Option Addr) (c : Nat) (l : List Pc) (x : Int) (w : World) (hs : Sl w encP 2 A l) (hl : l.length ≤ 16777216) (hf : FitP l) :
    Calls Try.prog 20 #[.slice A l.length c, .int .i64 x] w (GtRes (if storeV l then getT l x else none) w) := by
  have HS := Lib.hid hs
  have hsv := fun w h => iStoreValid_any A c l w h hl hf
  clear hs
  cases hv : storeV l
  · rw [hv] at hsv
    have HSV := Lib.hid hsv
    clear hsv hv
    unfold GtRes
    go_enter Try.func20, Try.ntmps20
    go_wp2_with fail
    refine (HSV.out _ HS.out).mono ?_
    rintro e w1 ⟨rfl, hb⟩
    have HB := Lib.hid hb
    clear hb
    go_wp2
    go_ret2
    exact ⟨rfl, HB.out⟩
  · have HT := Lib.hid (fun w h => itextOf_any A c l x w h hl (storeV_sorted hv))
    rw [hv] at hsv
    have HSV := Lib.hid hsv
    clear hsv hv
    rw [if_pos rfl]
    unfold GtRes at *
    generalize getT l x = R at *
    go_enter Try.func20, Try.ntmps20
    go_wp2_with fail
    refine (HSV.out _ HS.out).mono ?_
    rintro e w1 ⟨rfl, hb⟩
    have HB := Lib.hid hb
    have HS1 := Lib.hid (HS.out.below hb)
    clear hb
    go_wp2_with fail
    refine (HT.out _ HS1.out).mono ?_
    rintro e w2 ⟨rfl, hb⟩
    have HB2 := Lib.hid (Below_then HB.out hb (Nat.le_refl _))
    clear hb
    go_wp2
    go_ret2
    exact ⟨rfl, HB2.out⟩
end Go.Proofs.Ytjadgjlidejjpaa
