/- NewArchive, walked. -/
import Derived.Test.YtedcgbmdfmgcgaaGreatDoorGa3
import Derived.Test.YtedcgbmdfmgcgaaGreatDoorGa1
import Derived.Test.YtedcgbmdfmgcgaaGreatDoorAr
set_option linter.unusedVariables false
namespace Go.Proofs.YtedcgbmdfmgcgaaGreatDoor
open Go.RowKit
/-- An archive's value: its pieces and its versions lie in rows of the call's own. -/
def ArV (w : World) (base : Nat) (a : Ar) (v : Value) : Prop := ∃ p q, v = .agg #[p, .int .i64 a.op, q] ∧ Own w base 83 2 encP p a.ps ∧ Own w base 68 3 encV q a.vs ∧ ApartV p q
def NaRes (r : Ar × Bool) (w : World) (e : Ending) (w' : World) : Prop := ∃ v, e = .returned (.tuple #[v, .bool r.2]) ∧ ArV w' w.heap.size r.1 v ∧ Below w.heap.size w w'
theorem NaRes.no {w w' : World} (hb : Below w.heap.size w w') : NaRes (⟨[], 0, []⟩, false) w (.returned (.tuple #[.agg #[.slice none 0 0, .int .i64 0, .slice none 0 0], .bool false])) w' := ⟨_, rfl, ⟨_, _, rfl, Own.nil, Own.nil, ApartV.nil _⟩, hb⟩
theorem NaRes.yes {w w' : World} {l : List Pc} {x : Int} {p : Value} (h : Own w' w.heap.size 83 2 encP p l) (hb : Below w.heap.size w w') : NaRes (⟨l, x, []⟩, true) w (.returned (.tuple #[.agg #[p, .int .i64 x, .slice none 0 0], .bool true])) w' := ⟨_, rfl, ⟨_, _, rfl, h, Own.nil, ApartV.nil _⟩, hb⟩
theorem newA_len (l : List Pc) : (newA l).1.ps.length ≤ 40 ∧ (newA l).1.vs.length ≤ 0 := by
  have h := putT_len l (mk (foldT []))
  unfold newA
  generalize putT l (mk (foldT [])) = R at *
  split
  · exact ⟨h, Nat.le_refl _⟩
  · exact ⟨Nat.zero_le _, Nat.le_refl _⟩
set_option maxHeartbeats 2000000 in
set_option maxRecDepth 100000 in
theorem iNewArchive_any (A : Option Addr) (c : Nat) (l : List Pc) (w : World) (hs : Sl w encP 2 A l) (hcz : A = none → c = 0) (hl : l.length ≤ 16777216) (hf : FitP l) (ht : TzL w) :
    Calls Tryz.prog 9 #[.slice A l.length c] w (NaRes (newA l) w) := by
  have HS := Lib.hid hs
  have HT := Lib.hid ht
  have hE := fun w h => iEmptyRoot_any A c l w h hcz hl hf
  clear hs hcz ht
  unfold PutRes foldE at hE
  unfold newA
  generalize mk (foldT []) = FE at *
  generalize putT l FE = R at *
  obtain ⟨R0, R1, R2⟩ := R
  cases R2
  · have HE := Lib.hid hE
    clear hE
    go_enter Tryz.func9, Tryz.ntmps9
    go_wp2_with fail
    refine (HE.out _ (HS.out.alloc _) (HT.out.below ((Below.refl _ _).alloc (Nat.le_refl _) _))).mono ?_
    rintro e w1 ⟨v, rfl, hown, hb⟩
    have hr := Row3.new.below hb
    obtain ⟨⟨x0, x1, x2⟩, hfr, _⟩ := hr
    have HB := Lib.hid (Below_of_alloc hb)
    clear hb hown
    go_wp2_with fail
    exact bodyPost_ret (v := .tuple #[.agg #[.slice none 0 0, .int .i64 0, .slice none 0 0], .bool false]) (by simp [results, Tryz.results9, go_sem, x0, x1, x2]) rfl (NaRes.no (((HB.out.setCell (Nat.le_refl _) _).setCell (Nat.le_refl _) _).setCell (Nat.le_refl _) _))
  · have HE := Lib.hid hE
    clear hE
    go_enter Tryz.func9, Tryz.ntmps9
    go_wp2_with fail
    refine (HE.out _ (HS.out.alloc _) (HT.out.below ((Below.refl _ _).alloc (Nat.le_refl _) _))).mono ?_
    rintro e w1 ⟨v, rfl, hown, hb⟩
    have hr := Row3.new.below hb
    obtain ⟨⟨x0, x1, x2⟩, hfr, _⟩ := hr
    have hlt : w.heap.size < (w.alloc (.cells #[.slice none 0 0, .int .i64 0, .slice none 0 0] 27)).heap.size := by simp
    have HB := Lib.hid (Below_of_alloc hb)
    have HW := Lib.hid hown
    obtain ⟨X, d, rfl, _, _, _⟩ := hown.sl
    clear hb hown
    go_wp2_with fail
    exact bodyPost_ret (v := .tuple #[.agg #[.slice X R0.length d, .int .i64 R1, .slice none 0 0], .bool true]) (by simp [results, Tryz.results9, go_sem, x0, x1, x2]) rfl (NaRes.yes ((((HW.out.setBelow hlt _).setBelow hlt _).setBelow hlt _).mono (Nat.le_of_lt hlt)) (((HB.out.setCell (Nat.le_refl _) _).setCell (Nat.le_refl _) _).setCell (Nat.le_refl _) _))
set_option maxHeartbeats 2000000 in
set_option maxRecDepth 100000 in
theorem sNewArchive_any (A : Option Addr) (c : Nat) (l : List Pc) (w : World) (hs : Sl w encP 2 A l) (hcz : A = none → c = 0) (hle : l.length ≤ c) (hl : l.length ≤ 16777216) (hf : FitP l) :
    Calls Tryz.prog 10 #[.slice A l.length c] w (NaRes (newA l) w) := by
  have HS := Lib.hid hs
  have hE := fun w h => sEmptyRoot_any A c l w h hcz hle hl hf
  clear hs hcz 
  unfold PutRes foldE at hE
  unfold newA
  generalize mk (foldT []) = FE at *
  generalize putT l FE = R at *
  obtain ⟨R0, R1, R2⟩ := R
  cases R2
  · have HE := Lib.hid hE
    clear hE
    go_enter Tryz.func10, Tryz.ntmps10
    go_wp2_with fail
    refine (HE.out _ (HS.out.alloc _)).mono ?_
    rintro e w1 ⟨v, rfl, hown, hb⟩
    have hr := Row3.new.below hb
    obtain ⟨⟨x0, x1, x2⟩, hfr, _⟩ := hr
    have HB := Lib.hid (Below_of_alloc hb)
    clear hb hown
    go_wp2_with fail
    exact bodyPost_ret (v := .tuple #[.agg #[.slice none 0 0, .int .i64 0, .slice none 0 0], .bool false]) (by simp [results, Tryz.results10, go_sem, x0, x1, x2]) rfl (NaRes.no (((HB.out.setCell (Nat.le_refl _) _).setCell (Nat.le_refl _) _).setCell (Nat.le_refl _) _))
  · have HE := Lib.hid hE
    clear hE
    go_enter Tryz.func10, Tryz.ntmps10
    go_wp2_with fail
    refine (HE.out _ (HS.out.alloc _)).mono ?_
    rintro e w1 ⟨v, rfl, hown, hb⟩
    have hr := Row3.new.below hb
    obtain ⟨⟨x0, x1, x2⟩, hfr, _⟩ := hr
    have hlt : w.heap.size < (w.alloc (.cells #[.slice none 0 0, .int .i64 0, .slice none 0 0] 27)).heap.size := by simp
    have HB := Lib.hid (Below_of_alloc hb)
    have HW := Lib.hid hown
    obtain ⟨X, d, rfl, _, _, _⟩ := hown.sl
    clear hb hown
    go_wp2_with fail
    exact bodyPost_ret (v := .tuple #[.agg #[.slice X R0.length d, .int .i64 R1, .slice none 0 0], .bool true]) (by simp [results, Tryz.results10, go_sem, x0, x1, x2]) rfl (NaRes.yes ((((HW.out.setBelow hlt _).setBelow hlt _).setBelow hlt _).mono (Nat.le_of_lt hlt)) (((HB.out.setCell (Nat.le_refl _) _).setCell (Nat.le_refl _) _).setCell (Nat.le_refl _) _))
end Go.Proofs.YtedcgbmdfmgcgaaGreatDoor
