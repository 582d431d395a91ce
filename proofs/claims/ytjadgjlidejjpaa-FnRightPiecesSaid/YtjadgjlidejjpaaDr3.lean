/- Drawn inputs: texts, pieces. -/
import Derived.Test.YtjadgjlidejjpaaDr2
import Derived.Test.YtjadgjlidejjpaaW3
set_option linter.unusedVariables false
namespace Go.Proofs.Ytjadgjlidejjpaa
open Go.RowKit

theorem Only.frozen {g : Nat} {w w1 : World} (h : Only g w w1) {b o : Nat} (hb : b ≠ g) (hlt : b < w.heap.size) : w1.frozen? ⟨b, o, none⟩ = w.frozen? ⟨b, o, none⟩ :=
  World.frozen?_of_block (w := w) (h.block b hlt (by intro e; injection e; contradiction))
theorem Only.setNew {g : Nat} {w w1 : World} (h : Only g w w1) {p : Addr} (hp : w.heap.size ≤ p.block) (u : Value) : Only g w (w1.setCell p u) :=
  ⟨h.os, h.tape, h.output, by simpa [World.setCell] using h.size, fun k hk hne => (Below.heap_setCell _ _ _ _ (by omega)).trans (h.block k hk hne)⟩
theorem Rdr.setNew {w : World} {g p : Nat} (h : Rdr w g p) {q : Addr} (hq : g < q.block) (u : Value) : Rdr (w.setCell q u) g p :=
  h.under hq ((Below.refl _ _).setCell (Nat.le_refl _) u)
/-- A block of the call's own: what it holds, and that it is not frozen. -/
theorem new_cell {w : World} {cs : Array Value} {E : TypeId} {k : Nat} {u : Value} (hu : cs[k]? = some u) : (w.alloc (.cells cs E)).cell? ⟨w.heap.size, k, none⟩ = some u := by
  rw [cell_of_row _ _ k _ E (0, 0) (heap_alloc_new w _)]; exact hu
theorem new_free {w : World} {cs : Array Value} {E : TypeId} (k : Nat) : (w.alloc (.cells cs E)).frozen? ⟨w.heap.size, k, none⟩ = false := by
  have h := heap_alloc_new w (.cells cs E)
  unfold World.frozen?
  simp only [h]
  simp

/-- A drawn text: valid, and with another print than the one text that a law puts in its place. -/
def txB : Value → Bool | .string s => textV (bs s) && decide (s.size ≤ 60) && !(prOf (bs s) == prOf (bs ⟨#[113, 117, 105, 116, 101, 32, 111, 116, 104, 101, 114]⟩)) | _ => false
def Txt (v : Value) : Prop := ∃ s : ByteArray, v = .string s ∧ s.size ≤ 60 ∧ textV (bs s) = true ∧ prOf (bs s) ≠ prOf (bs ⟨#[113, 117, 105, 116, 101, 32, 111, 116, 104, 101, 114]⟩)
theorem txB_iff {v : Value} (h : txB v = true) : Txt v := by
  unfold txB at h; split at h
  · simp only [Bool.and_eq_true, decide_eq_true_eq, Bool.not_eq_true', beq_eq_false_iff_ne] at h
    exact ⟨_, rfl, h.1.2, h.1.1, h.2⟩
  · cases h
set_option maxHeartbeats 2000000 in
set_option maxRecDepth 100000 in
theorem l20Text_zero (g p : Nat) (w : World) (hr : Rdr w g p) (hp : p ≤ 900000000) :
    Calls Try.prog 64 #[.pointer (some ⟨g, 0, none⟩), .int .i64 0] w (Drew Txt 1 w g p) := by
  have HR := Lib.hid hr
  clear hr
  go_enter Try.func64, Try.ntmps64
  go_wp2_with fail
  refine (odd0_any _ _ _ HR.out (by omega)).mono ?_
  rintro e w' ⟨rfl, rfl⟩
  go_wp2_with fail
  refine (pick_lit 8 txB HR.out (by omega) rfl (by omega) (by omega) (by decide +kernel)).mono ?_
  rintro e w2 ⟨x, u, rfl, hx, hc, hu, ho2, hr2⟩
  obtain ⟨s, rfl, hs⟩ := txB_iff hu
  have HR2 := Lib.hid hr2
  have HO2 := Lib.hid ho2
  have HT := Lib.hid hs
  clear hr2 ho2 hs hu
  go_wp2_with fail
  go_ret
  exact ⟨_, _, rfl, ⟨_, rfl, HT.out⟩, HO2.out, HR2.out, by omega⟩

theorem flat3 {a0 a1 a2 : Int} {t0 t1 t2 : ByteArray} (x : Nat) (hx : x < 3) : ∃ (a : Int) (t : ByteArray), (#[Value.int .i64 a0, .string t0, .int .i64 a1, .string t1, .int .i64 a2, .string t2] : Array Value)[x * 2]? = some (.int .i64 a) ∧
    (#[Value.int .i64 a0, .string t0, .int .i64 a1, .string t1, .int .i64 a2, .string t2] : Array Value)[x * 2 + 1]? = some (.string t) ∧ (a = a0 ∨ a = a1 ∨ a = a2) ∧ (t = t0 ∨ t = t1 ∨ t = t2) := by
  match x, hx with
  | 0, _ => exact ⟨a0, t0, rfl, rfl, .inl rfl, .inl rfl⟩
  | 1, _ => exact ⟨a1, t1, rfl, rfl, .inr (.inl rfl), .inr (.inl rfl)⟩
  | 2, _ => exact ⟨a2, t2, rfl, rfl, .inr (.inr rfl), .inr (.inr rfl)⟩
def PcV (v : Value) : Prop := ∃ (a : Int) (t : ByteArray), v = .agg #[.int .i64 a, .string t] ∧ -1 ≤ a ∧ a ≤ 16777212 ∧ t.size ≤ 60
set_option maxHeartbeats 2000000 in
set_option maxRecDepth 100000 in
theorem l20Piece_any (n : Int) (g p : Nat) (w : World) (hr : Rdr w g p) (hp : p ≤ 800000000) (hn : n ≤ 1000000000) :
    Calls Try.prog 53 #[.pointer (some ⟨g, 0, none⟩), .int .i64 n] w (Drew PcV 4 w g p) := by
  have HR := Lib.hid hr
  have hg := hr.lt
  clear hr
  go_enter Try.func53, Try.ntmps53
  go_wp2_with fail
  refine (l20Text_zero _ _ _ (HR.out.alloc _) (by omega)).mono ?_
  rintro e w1 ⟨v, p1, rfl, ⟨s, rfl, hs60, hst, _⟩, ho1, hr1, hp1⟩
  have hb1 := prOf_bd (bs s)
  have hc0 := ho1.cell (by omega) (new_cell (w := w) (cs := #[.int .i64 0, .string ⟨#[]⟩]) (E := 38) (k := 0) rfl)
  have hc1 := ho1.cell (by omega) (new_cell (w := w) (cs := #[.int .i64 0, .string ⟨#[]⟩]) (E := 38) (k := 1) rfl)
  have hf0 := (ho1.frozen (b := w.heap.size) (o := 0) (by omega) (by simp)).trans (new_free 0)
  have hf1 := (ho1.frozen (b := w.heap.size) (o := 1) (by omega) (by simp)).trans (new_free 1)
  have hz1 : w.heap.size < w1.heap.size := by have := ho1.size; simp at this; omega
  have HR1 := Lib.hid hr1
  have HO1 := Lib.hid ((Only.of_below ((Below.refl _ _).alloc (Nat.le_refl w.heap.size) _)).trans ho1)
  clear hr1 ho1
  go_wp2_with fail
  refine (odd_any _ _ _ _ HR1.out (by omega) hn).mono ?_
  rintro e w2 ⟨x, p2, rfl, ho2, hr2, hp2⟩
  have hd0 := ho2.cell (by omega) hc0
  have hd1 := ho2.cell (by omega) hc1
  have he0 := (ho2.frozen (o := 0) (by omega) hz1).trans hf0
  have he1 := (ho2.frozen (o := 1) (by omega) hz1).trans hf1
  have hz2 : w.heap.size < w2.heap.size := by have := ho2.size; omega
  have HR2 := Lib.hid hr2
  have HO2 := Lib.hid (HO1.out.trans ho2)
  clear hr2 ho2 hc0 hc1 hf0 hf1
  have hP := sPrintOf_any s
  generalize prOf (bs s) = q at *
  have HP := Lib.hid hP
  clear hP
  cases x
  · go_wp2_with (go_at_call 47; refine (HP.out _ (by omega)).mono ?_; rintro e w' ⟨rfl, rfl⟩)
    refine bodyPost_ret (v := .agg #[.int .i64 q, .string s]) (by simp [results, Try.results53, go_sem, hd0, hd1]) rfl ⟨_, _, rfl, ⟨_, _, rfl, by omega, by omega, hs60⟩, (HO2.out.setNew (Nat.le_refl _) _).setNew (Nat.le_refl _) _, (HR2.out.setNew hg _).setNew hg _, by omega⟩
  · go_wp2_with fail
    refine (HP.out _ (by omega)).mono ?_
    rintro e w' ⟨rfl, rfl⟩
    go_wp2_with fail
    refine (pick_any _ _ _ _ (HR2.out.alloc _) (by omega) (by omega)).mono ?_
    rintro e w3 ⟨y, rfl, hy, ho3, hr3⟩
    have hy3 : y < 3 := by omega
    obtain ⟨a, t, hca, hct, ha, ht⟩ := flat3 (a0 := q) (t0 := ⟨#[116, 117, 114, 110, 101, 100]⟩) (a1 := -1) (t1 := ⟨#[10]⟩) (a2 := 0) (t2 := s) y hy3
    have hla := lit_cell ho3 HR2.out.lt hca
    have hlt := lit_cell ho3 HR2.out.lt hct
    have ho3' := (Only.of_below ((Below.refl _ _).alloc (Nat.le_refl w2.heap.size) _)).trans ho3
    have hc0 := ho3'.cell (by omega) hd0
    have hc1 := ho3'.cell (by omega) hd1
    have hf0 := (ho3'.frozen (o := 0) (by omega) hz2).trans he0
    have hf1 := (ho3'.frozen (o := 1) (by omega) hz2).trans he1
    have HR3 := Lib.hid hr3
    have HO3 := Lib.hid (HO2.out.trans ho3')
    have ha2 : -1 ≤ a ∧ a ≤ 16777212 := by rcases ha with rfl | rfl | rfl <;> omega
    have ht2 : t.size ≤ 60 := by rcases ht with rfl | rfl | rfl <;> first | omega | (simp [ByteArray.size])
    clear hr3 ho3 ho3' hca hct ha ht hd0 hd1 he0 he1 hy
    go_wp2
    refine bodyPost_ret (v := .agg #[.int .i64 a, .string t]) (by simp [results, Try.results53, go_sem, hc0, hc1]) rfl ⟨_, _, rfl, ⟨_, _, rfl, ha2.1, ha2.2, ht2⟩, (HO3.out.setNew (Nat.le_refl _) _).setNew (Nat.le_refl _) _, (HR3.out.setNew hg _).setNew hg _, by omega⟩

def DrawnPc (w : World) (e : Ending) (w' : World) : Prop := ∃ (a : Int) (t : ByteArray), e = .returned (.agg #[.int .i64 a, .string t]) ∧ -1 ≤ a ∧ a ≤ 16777212 ∧ t.size ≤ 60 ∧ Below w.heap.size w w'
end Go.Proofs.Ytjadgjlidejjpaa
