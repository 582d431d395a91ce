/- Texts in one: Tr3, Pr, Dr3, Ht, Ne, Ve, STag, Co, SPiece. -/
import Derived.Test.YtokelopllbaikaaGreatDoorGa6
import Derived.Test.YtokelopllbaikaaGreatDoorGa5
import Derived.Test.YtokelopllbaikaaGreatDoorGa3
import Derived.Laws.StructEq
import Derived.Test.YtokelopllbaikaaGreatDoorGa0
import Derived.Test.YtokelopllbaikaaGreatDoorGa4
import Derived.Laws.CopyRow
import Derived.Laws.IdiomCopy
import Derived.Lib.AppendZerosOnto
import Derived.Lib.Overlaps
import Derived.Shelf.Spec.SlicesInsert
/- Trees: proofs, walked. -/
set_option linter.unusedVariables false
namespace Go.Proofs.YtokelopllbaikaaGreatDoor
open Go.RowKit

/-- One level of a tree on the way of a proof: what was written so far, what is to come. -/
def ProofAt (l : List Int) (n : Nat) (acc m : List Int) (N : Nat) : Prop := ∃ f, m.length ≤ 2 ^ f ∧ proofF 5 l n = acc ++ proofF f m N
theorem ProofAt.start {l : List Int} {n : Nat} (h : l.length ≤ 16) : ProofAt l n [] l n := ⟨5, by omega, rfl⟩
theorem ProofAt.len {l : List Int} {n : Nat} {acc m : List Int} {N : Nat} (h : ProofAt l n acc m N) : acc.length ≤ 5 := by
  obtain ⟨f, _, e⟩ := h
  have := proofF_len 5 l n
  rw [e, List.length_append] at this; omega
theorem ProofAt.step {l : List Int} {n : Nat} {acc m : List Int} {N : Nat} (h : ProofAt l n acc m N) (h1 : 1 < m.length) (x : Int) (hx : x = if N ^^^ 1 < m.length then m.getD (N ^^^ 1) 0 else -1) : ProofAt l n (acc ++ [x]) (lvlUp m) (N / 2) := by
  obtain ⟨f, hf, e⟩ := h
  cases f with
  | zero => simp at hf; omega
  | succ f =>
    refine ⟨f, ?_, ?_⟩
    · rw [lvlUp_len]; simp only [Nat.pow_succ] at hf; omega
    · rw [e, proofF_step h1, ← hx]; simp
theorem ProofAt.done {l : List Int} {n : Nat} {acc m : List Int} {N : Nat} (h : ProofAt l n acc m N) (h1 : m.length = 1) : proofF 5 l n = acc := by
  obtain ⟨f, hf, e⟩ := h
  rw [e, proofF_done h1, List.append_nil]
end Go.Proofs.YtokelopllbaikaaGreatDoor

/- Roots of proofs, walked. -/
set_option linter.unusedVariables false
namespace Go.Proofs.YtokelopllbaikaaGreatDoor
open Go.RowKit

/-- How a proof is read: what is left to be reckoned. -/
def RootAt (l : List Int) (R : Int) (k : Nat) (p : Int) (N M : Nat) : Prop := R = rootF (l.drop k) p N M
theorem RootAt.nil {l : List Int} {R p : Int} {k N M : Nat} (h : RootAt l R k p N M) (hk : ¬ k < l.length) : R = if 1 < M then -1 else p := by
  unfold RootAt at h; rw [h, List.drop_of_length_le (by omega)]; rfl

end Go.Proofs.YtokelopllbaikaaGreatDoor

/- Drawn inputs: texts, pieces. -/
set_option linter.unusedVariables false
namespace Go.Proofs.YtokelopllbaikaaGreatDoor
open Go.RowKit

theorem Only.frozen {g : Nat} {w w1 : World} (h : Only g w w1) {b o : Nat} (hb : b ≠ g) (hlt : b < w.heap.size) : w1.frozen? ⟨b, o, none⟩ = w.frozen? ⟨b, o, none⟩ :=
  World.frozen?_of_block (w := w) (h.block b hlt (by intro e; injection e; contradiction))
theorem Only.setNew {g : Nat} {w w1 : World} (h : Only g w w1) {p : Addr} (hp : w.heap.size ≤ p.block) (u : Value) : Only g w (w1.setCell p u) :=
  ⟨h.os, h.tape, h.output, by simpa [World.setCell] using h.size, fun k hk hne => (Below.heap_setCell _ _ _ _ (by omega)).trans (h.block k hk hne)⟩
theorem Rdr.setNew {w : World} {g p : Nat} (h : Rdr w g p) {q : Addr} (hq : g < q.block) (u : Value) : Rdr (w.setCell q u) g p :=
  h.under hq ((Below.refl _ _).setCell (Nat.le_refl _) u)
/-- A block of the call's own: what it holds, and that it is not frozen. -/
theorem new_cell {w : World} {cs : Array Value} {E : TypeId} {k : Nat} {u : Value} (hu : cs[k]? = some u) : (w.alloc (.cells cs E)).cell? ⟨w.heap.size, k, none⟩ = some u := by
  rw [cell_of_row _ _ k _ E (0, 0) (heap_alloc_new w _)]; exact hu
theorem new_free {w : World} {cs : Array Value} {E : TypeId} (k : Nat) : (w.alloc (.cells cs E)).frozen? ⟨w.heap.size, k, none⟩ = false := by
  have h := heap_alloc_new w (.cells cs E)
  unfold World.frozen?
  simp only [h]
  simp

end Go.Proofs.YtokelopllbaikaaGreatDoor

/- HexText of the reference; ReadHex, walked. -/
set_option linter.unusedVariables false
namespace Go.Proofs.YtokelopllbaikaaGreatDoor
open Go.RowKit
attribute [local go_sem] mk_size mk_append
--BEGIN
def digs16 : ByteArray := ⟨#[48, 49, 50, 51, 52, 53, 54, 55, 56, 57, 97, 98, 99, 100, 101, 102]⟩
theorem digs16_at (d : Nat) (h : d < 16) : digs16.extract d (d + 1) = mk [hexD d] := by
  have key : ∀ d : Fin 16, digs16.extract d.val (d.val + 1) = mk [hexD d.val] := by decide
  exact key ⟨d, h⟩
set_option maxHeartbeats 4000000 in
set_option maxRecDepth 100000 in
theorem sHexText_any (n : Int) (w : World) : Calls Tryz.prog 110 #[.int .i64 n] w fun e w' => e = .returned (.string (mk (hexT n))) ∧ w = w' := by
  cases hp : pv n
  · have E := Lib.hid (hexT_bad hp)
    have hP : ∀ w, Calls Tryz.prog 109 #[.int .i64 n, .int .i64 0, .int .i64 16777212] w fun e w' => e = .returned (.bool false) ∧ w = w' := fun w => hp ▸ sl1In_any n 0 16777212 w
    have HP := Lib.hid hP
    clear hp hP
    rw [E.out]
    go_enter Tryz.func110, Tryz.ntmps110
    go_wp2_with (go_at_call 109; refine (HP.out _).mono ?_; rintro e w' ⟨rfl, rfl⟩)
    go_ret
    exact ⟨rfl, rfl⟩
  · have h2 := pv_iff.1 hp
    obtain ⟨m, rfl⟩ := Int.eq_ofNat_of_zero_le h2.1
    have hm : m ≤ 16777212 := by omega
    have E := Lib.hid (hexT_ok hm)
    have hP : ∀ w, Calls Tryz.prog 109 #[.int .i64 (m : Int), .int .i64 0, .int .i64 16777212] w fun e w' => e = .returned (.bool true) ∧ w = w' := fun w => hp ▸ sl1In_any (m : Int) 0 16777212 w
    have HP := Lib.hid hP
    have hx := digs16_at (m % 16) (by omega)
    unfold digs16 at hx
    have HS := Lib.hid (HexAt.start hm)
    clear hp hP h2
    rw [E.out]
    clear E
    go_enter Tryz.func110, Tryz.ntmps110
    go_wp2_with (go_at_call 109; refine (HP.out _).mono ?_; rintro e w' ⟨rfl, rfl⟩)
    go_loop [0, 4] (fun u o => ∃ (N : Nat) (acc : Bs), u = .int .i64 (N : Int) ∧ o = .string (mk acc) ∧ N ≤ m ∧ acc.length ≤ 7 ∧ Hid (HexAt m N acc)) (fun u _ => (intOf u).toNat)
    case atStart => exact ⟨m, [hexD (m % 16)], rfl, by rw [hx], Nat.le_refl _, by simp, HS.out⟩
    case round =>
      obtain ⟨N, acc, rfl, rfl, hN, hal, HA⟩ := hrel
      by_cases hlt : 16 ≤ N
      · have hlt' : (16 : Int) ≤ (N : Int) := by omega
        have hd : (N : Int) / 16 = ((N / 16 : Nat) : Int) := by omega
        have hst := HA.out.step hlt
        have hac := hst.1
        have HST := Lib.hid hst
        clear hx
        have hx := digs16_at (N / 16 % 16) (by omega)
        unfold digs16 at hx
        have hlt2 : N / 16 ≤ N := Nat.div_le_self _ _
        have hlt3 : N / 16 < N := Nat.div_lt_self (by omega) (by omega)
        generalize N / 16 = M at *
        clear hst
        go_wp2
        go_round
        case rel => exact ⟨M, hexD (M % 16) :: acc, rfl, by first | rfl | rw [hx]; rfl, by omega, hac, HST.out⟩
        case measure => simp [intOf]; omega
      · have hlt' : ¬ (16 : Int) ≤ (N : Int) := by omega
        have HD := Lib.hid (HA.out.done (by omega))
        go_wp2
        go_ret
        exact ⟨ret_str (by rw [HD.out]), rfl⟩
end Go.Proofs.YtokelopllbaikaaGreatDoor

/- '==' and '!=' of structs. -/
set_option linter.unusedVariables false
namespace Go.Proofs.YtokelopllbaikaaGreatDoor
open Go.RowKit

end Go.Proofs.YtokelopllbaikaaGreatDoor

/- Versions and tags, walked. -/
set_option linter.unusedVariables false
namespace Go.Proofs.YtokelopllbaikaaGreatDoor
open Go.RowKit

def FitV (l : List Vr) : Prop := ∀ v ∈ l, v.2.2.size ≤ 16777216
theorem FitV.at {l : List Vr} (h : FitV l) {k : Nat} (hk : k < l.length) : l[k].2.2.size ≤ 16777216 := h _ (by simp)
/-! ### prints of lists -/
/-! ### tags -/
def zeroT : Tg := (⟨#[]⟩, 0, 0, 0)
def mkT (l : List Vr) (name : ByteArray) (n : Int) : Tg := (makeTag l name n).getD zeroT
def mkOk (l : List Vr) (name : ByteArray) (n : Int) : Bool := (makeTag l name n).isSome
abbrev tgV (t : Tg) : Value := .agg #[.string t.1, .int .i64 t.2.1, .int .i64 t.2.2.1, .int .i64 t.2.2.2]
def MkR (l : List Vr) (name : ByteArray) (n : Int) (w : World) (e : Ending) (w' : World) : Prop :=
  e = .returned (.tuple #[tgV (mkT l name n), .bool (mkOk l name n)]) ∧ Below w.heap.size w w'
theorem MkR.no {l : List Vr} {name : ByteArray} {n : Int} (h : wordV (bs name) = false ∨ versV l = false ∨ n < 0 ∨ (l.length : Int) ≤ n) {w w' : World} (hb : Below w.heap.size w w') : MkR l name n w (.returned (.tuple #[.agg #[.string ⟨#[]⟩, .int .i64 0, .int .i64 0, .int .i64 0], .bool false])) w' := by
  have e := makeTag_none h
  exact ⟨by unfold mkT mkOk; rw [e]; rfl, hb⟩
theorem MkR.yes {l : List Vr} {name : ByteArray} {k : Nat} (hw : wordV (bs name) = true) (hv : versV l = true) (hk : k < l.length) {w w' : World} (hb : Below w.heap.size w w') : MkR l name k w (.returned (.tuple #[.agg #[.string name, .int .i64 (k : Int), .int .i64 l[k].1, .int .i64 (prList [prOf (bs name), (k : Int), l[k].1])], .bool true])) w' := by
  have e := makeTag_ok hw hv hk
  exact ⟨by unfold mkT mkOk; rw [e]; rfl, hb⟩
end Go.Proofs.YtokelopllbaikaaGreatDoor

/- Tags: copies, sizes, comparisons and marks of their slices, as laws make them. Written by structgen.py. -/
set_option linter.unusedVariables false
namespace Go.Proofs.YtokelopllbaikaaGreatDoor
open Go.RowKit

end Go.Proofs.YtokelopllbaikaaGreatDoor

/- 'copy' of elements of more than one cell, as run equations; a row written whole. -/
set_option linter.unusedVariables false
namespace Go.Proofs.YtokelopllbaikaaGreatDoor
open Go.RowKit

theorem run_copy_rowK {P : Program} (w : World) (dT sT ty elem : TypeId) (g o dLen dCap : Nat) (a : Addr) (sLen sCap : Nat) (cur : Array Value) (t : TypeId) (cs : List Value) (k m : Nat)
    (hu : P.underlying dT = some (.slice elem)) (hs : (P.info? elem).map (·.size) = some k) (hm : Nat.min sLen dLen = m)
    (hg : w.heap[g]? = some (.cells cur t (0, 0))) (hn : cs.length = m * k)
    (hsrc : ∀ j v, cs[j]? = some v → w.cell? (a.add j) = some v) (hfit : o + cs.length ≤ cur.size) (h1 : ∀ v ∈ cs, v.oneCell' = true) :
    (Builtin.copy_ #[dT, sT] ty #[.slice (some ⟨g, o, none⟩) dLen dCap, .slice (some a) sLen sCap]).run P w =
      .ok (goInt m) (w.setRow g (cur.toList.take o ++ cs ++ cur.toList.drop (o + cs.length)).toArray) := by
  have hl := run_loadCells_list (P := P) w a cs hsrc
  have hst := run_storeCells_at P g o t cs 0 cur w hg (by simpa using hfit) h1
  rw [hn] at hl
  cases hq : P.info? elem with
  | none => simp [hq] at hs
  | some i =>
    have hi : i.size = k := by simpa [hq] using hs
    simp [Builtin.copy_, run_underlying hu, Builtin.lenOf, Builtin.firstCells, sizeOf, typeInfo, hq, hi, hm, hl, hst]
end Go.Proofs.YtokelopllbaikaaGreatDoor

/- Pieces: copies, sizes, comparisons and marks of their slices, as laws make them. Written by structgen.py. -/
set_option linter.unusedVariables false
namespace Go.Proofs.YtokelopllbaikaaGreatDoor
open Go.RowKit

end Go.Proofs.YtokelopllbaikaaGreatDoor
