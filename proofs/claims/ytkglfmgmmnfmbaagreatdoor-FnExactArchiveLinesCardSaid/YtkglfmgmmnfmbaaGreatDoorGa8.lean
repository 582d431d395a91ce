/- Texts in one: Tr3, Pr, Dr3, Ht, Ne, Ve, STag, Co, SPiece. -/
import Derived.Test.YtkglfmgmmnfmbaaGreatDoorGa6
import Derived.Test.YtkglfmgmmnfmbaaGreatDoorGa5
import Derived.Test.YtkglfmgmmnfmbaaGreatDoorGa3
import Derived.Laws.StructEq
import Derived.Test.YtkglfmgmmnfmbaaGreatDoorGa0
import Derived.Test.YtkglfmgmmnfmbaaGreatDoorGa4
import Derived.Laws.CopyRow
import Derived.Laws.IdiomCopy
import Derived.Lib.AppendZerosOnto
import Derived.Lib.Overlaps
import Derived.Shelf.Spec.SlicesInsert
/- Trees: proofs, walked. -/
set_option linter.unusedVariables false
namespace Go.Proofs.YtkglfmgmmnfmbaaGreatDoor
open Go.RowKit

/-- One level of a tree on the way of a proof: what was written so far, what is to come. -/
def ProofAt (l : List Int) (n : Nat) (acc m : List Int) (N : Nat) : Prop := ∃ f, m.length ≤ 2 ^ f ∧ proofF 5 l n = acc ++ proofF f m N
theorem ProofAt.start {l : List Int} {n : Nat} (h : l.length ≤ 16) : ProofAt l n [] l n := ⟨5, by omega, rfl⟩
theorem ProofAt.len {l : List Int} {n : Nat} {acc m : List Int} {N : Nat} (h : ProofAt l n acc m N) : acc.length ≤ 5 := by
  obtain ⟨f, _, e⟩ := h
  have := proofF_len 5 l n
  rw [e, List.length_append] at this; omega
theorem ProofAt.step {l : List Int} {n : Nat} {acc m : List Int} {N : Nat} (h : ProofAt l n acc m N) (h1 : 1 < m.length) (x : Int) (hx : x = if N ^^^ 1 < m.length then m.getD (N ^^^ 1) 0 else -1) : ProofAt l n (acc ++ [x]) (lvlUp m) (N / 2) := by
  obtain ⟨f, hf, e⟩ := h
  cases f with
  | zero => simp at hf; omega
  | succ f =>
    refine ⟨f, ?_, ?_⟩
    · rw [lvlUp_len]; simp only [Nat.pow_succ] at hf; omega
    · rw [e, proofF_step h1, ← hx]; simp
theorem ProofAt.done {l : List Int} {n : Nat} {acc m : List Int} {N : Nat} (h : ProofAt l n acc m N) (h1 : m.length = 1) : proofF 5 l n = acc := by
  obtain ⟨f, hf, e⟩ := h
  rw [e, proofF_done h1, List.append_nil]
end Go.Proofs.YtkglfmgmmnfmbaaGreatDoor

/- Roots of proofs, walked. -/
set_option linter.unusedVariables false
namespace Go.Proofs.YtkglfmgmmnfmbaaGreatDoor
open Go.RowKit

/-- How a proof is read: what is left to be reckoned. -/
def RootAt (l : List Int) (R : Int) (k : Nat) (p : Int) (N M : Nat) : Prop := R = rootF (l.drop k) p N M
theorem RootAt.nil {l : List Int} {R p : Int} {k N M : Nat} (h : RootAt l R k p N M) (hk : ¬ k < l.length) : R = if 1 < M then -1 else p := by
  unfold RootAt at h; rw [h, List.drop_of_length_le (by omega)]; rfl

end Go.Proofs.YtkglfmgmmnfmbaaGreatDoor

/- Drawn inputs: texts, pieces. -/
set_option linter.unusedVariables false
namespace Go.Proofs.YtkglfmgmmnfmbaaGreatDoor
open Go.RowKit

theorem Only.frozen {g : Nat} {w w1 : World} (h : Only g w w1) {b o : Nat} (hb : b ≠ g) (hlt : b < w.heap.size) : w1.frozen? ⟨b, o, none⟩ = w.frozen? ⟨b, o, none⟩ :=
  World.frozen?_of_block (w := w) (h.block b hlt (by intro e; injection e; contradiction))
theorem Only.setNew {g : Nat} {w w1 : World} (h : Only g w w1) {p : Addr} (hp : w.heap.size ≤ p.block) (u : Value) : Only g w (w1.setCell p u) :=
  ⟨h.os, h.tape, h.output, by simpa [World.setCell] using h.size, fun k hk hne => (Below.heap_setCell _ _ _ _ (by omega)).trans (h.block k hk hne)⟩
theorem Rdr.setNew {w : World} {g p : Nat} (h : Rdr w g p) {q : Addr} (hq : g < q.block) (u : Value) : Rdr (w.setCell q u) g p :=
  h.under hq ((Below.refl _ _).setCell (Nat.le_refl _) u)
/-- A block of the call's own: what it holds, and that it is not frozen. -/
theorem new_cell {w : World} {cs : Array Value} {E : TypeId} {k : Nat} {u : Value} (hu : cs[k]? = some u) : (w.alloc (.cells cs E)).cell? ⟨w.heap.size, k, none⟩ = some u := by
  rw [cell_of_row _ _ k _ E (0, 0) (heap_alloc_new w _)]; exact hu
theorem new_free {w : World} {cs : Array Value} {E : TypeId} (k : Nat) : (w.alloc (.cells cs E)).frozen? ⟨w.heap.size, k, none⟩ = false := by
  have h := heap_alloc_new w (.cells cs E)
  unfold World.frozen?
  simp only [h]
  simp

end Go.Proofs.YtkglfmgmmnfmbaaGreatDoor

/- HexText of the reference; ReadHex, walked. -/
set_option linter.unusedVariables false
namespace Go.Proofs.YtkglfmgmmnfmbaaGreatDoor
open Go.RowKit
attribute [local go_sem] mk_size mk_append
--BEGIN
def digs16 : ByteArray := ⟨#[48, 49, 50, 51, 52, 53, 54, 55, 56, 57, 97, 98, 99, 100, 101, 102]⟩
theorem digs16_at (d : Nat) (h : d < 16) : digs16.extract d (d + 1) = mk [hexD d] := by
  have key : ∀ d : Fin 16, digs16.extract d.val (d.val + 1) = mk [hexD d.val] := by decide
  exact key ⟨d, h⟩
set_option maxHeartbeats 4000000 in
set_option maxRecDepth 100000 in
theorem sHexText_any (n : Int) (w : World) : Calls Tryz.prog 90 #[.int .i64 n] w fun e w' => e = .returned (.string (mk (hexT n))) ∧ w = w' := by
  cases hp : pv n
  · have E := Lib.hid (hexT_bad hp)
    have hP : ∀ w, Calls Tryz.prog 41 #[.int .i64 n, .int .i64 0, .int .i64 16777212] w fun e w' => e = .returned (.bool false) ∧ w = w' := fun w => hp ▸ sl1In_any n 0 16777212 w
    have HP := Lib.hid hP
    clear hp hP
    rw [E.out]
    go_enter Tryz.func90, Tryz.ntmps90
    go_wp2_with (go_at_call 41; refine (HP.out _).mono ?_; rintro e w' ⟨rfl, rfl⟩)
    go_ret
    exact ⟨rfl, rfl⟩
  · have h2 := pv_iff.1 hp
    obtain ⟨m, rfl⟩ := Int.eq_ofNat_of_zero_le h2.1
    have hm : m ≤ 16777212 := by omega
    have E := Lib.hid (hexT_ok hm)
    have hP : ∀ w, Calls Tryz.prog 41 #[.int .i64 (m : Int), .int .i64 0, .int .i64 16777212] w fun e w' => e = .returned (.bool true) ∧ w = w' := fun w => hp ▸ sl1In_any (m : Int) 0 16777212 w
    have HP := Lib.hid hP
    have hx := digs16_at (m % 16) (by omega)
    unfold digs16 at hx
    have HS := Lib.hid (HexAt.start hm)
    clear hp hP h2
    rw [E.out]
    clear E
    go_enter Tryz.func90, Tryz.ntmps90
    go_wp2_with (go_at_call 41; refine (HP.out _).mono ?_; rintro e w' ⟨rfl, rfl⟩)
    go_loop [0, 4] (fun u o => ∃ (N : Nat) (acc : Bs), u = .int .i64 (N : Int) ∧ o = .string (mk acc) ∧ N ≤ m ∧ acc.length ≤ 7 ∧ Hid (HexAt m N acc)) (fun u _ => (intOf u).toNat)
    case atStart => exact ⟨m, [hexD (m % 16)], rfl, by rw [hx], Nat.le_refl _, by simp, HS.out⟩
    case round =>
      obtain ⟨N, acc, rfl, rfl, hN, hal, HA⟩ := hrel
      by_cases hlt : 16 ≤ N
      · have hlt' : (16 : Int) ≤ (N : Int) := by omega
        have hd : (N : Int) / 16 = ((N / 16 : Nat) : Int) := by omega
        have hst := HA.out.step hlt
        have hac := hst.1
        have HST := Lib.hid hst
        clear hx
        have hx := digs16_at (N / 16 % 16) (by omega)
        unfold digs16 at hx
        have hlt2 : N / 16 ≤ N := Nat.div_le_self _ _
        have hlt3 : N / 16 < N := Nat.div_lt_self (by omega) (by omega)
        generalize N / 16 = M at *
        clear hst
        go_wp2
        go_round
        case rel => exact ⟨M, hexD (M % 16) :: acc, rfl, by first | rfl | rw [hx]; rfl, by omega, hac, HST.out⟩
        case measure => simp [intOf]; omega
      · have hlt' : ¬ (16 : Int) ≤ (N : Int) := by omega
        have HD := Lib.hid (HA.out.done (by omega))
        go_wp2
        go_ret
        exact ⟨ret_str (by rw [HD.out]), rfl⟩
end Go.Proofs.YtkglfmgmmnfmbaaGreatDoor

/- '==' and '!=' of structs. -/
set_option linter.unusedVariables false
namespace Go.Proofs.YtkglfmgmmnfmbaaGreatDoor
open Go.RowKit

theorem pc_under : Tryz.prog.underlying 107 = some (.struct (Tryz.prog.fieldsOf 107)) := by kernel_rfl
theorem pc_held : Tryz.prog.stoodInHeld 107 = false := by kernel_rfl
theorem pc_guard : Tryz.prog.eqGuardType Tryz.prog.depth 107 = false := by kernel_rfl
theorem eq_pc (w : World) (a0 b0 : Int) (a1 b1 : ByteArray) : (Op.equalIn 10000 107 (.agg #[.int .i64 a0, .string a1]) (.agg #[.int .i64 b0, .string b1])).run Tryz.prog w = .ok ((a0 == b0) && (a1.toList == b1.toList)) w := by
  rw [run_equalIn_agg w 9999 _ _ _ pc_under pc_held]
  unfold Program.fieldsOf
  simp [Tryz.underlying107, Op.eqFields, go_sem]
  by_cases h0 : a0 = b0 <;> by_cases h1 : a1.toList = b1.toList <;> simp [h0, h1]
theorem vr_under : Tryz.prog.underlying 63 = some (.struct (Tryz.prog.fieldsOf 63)) := by kernel_rfl
theorem vr_held : Tryz.prog.stoodInHeld 63 = false := by kernel_rfl
theorem vr_guard : Tryz.prog.eqGuardType Tryz.prog.depth 63 = false := by kernel_rfl
theorem eq_vr (w : World) (a0 b0 : Int) (a1 b1 : Int) (a2 b2 : ByteArray) : (Op.equalIn 10000 63 (.agg #[.int .i64 a0, .int .i64 a1, .string a2]) (.agg #[.int .i64 b0, .int .i64 b1, .string b2])).run Tryz.prog w = .ok ((a0 == b0) && ((a1 == b1) && (a2.toList == b2.toList))) w := by
  rw [run_equalIn_agg w 9999 _ _ _ vr_under vr_held]
  unfold Program.fieldsOf
  simp [Tryz.underlying63, Op.eqFields, go_sem]
  by_cases h0 : a0 = b0 <;> by_cases h1 : a1 = b1 <;> by_cases h2 : a2.toList = b2.toList <;> simp [h0, h1, h2]
end Go.Proofs.YtkglfmgmmnfmbaaGreatDoor

/- Versions and tags, walked. -/
set_option linter.unusedVariables false
namespace Go.Proofs.YtkglfmgmmnfmbaaGreatDoor
open Go.RowKit

def FitV (l : List Vr) : Prop := ∀ v ∈ l, v.2.2.size ≤ 16777216
theorem FitV.at {l : List Vr} (h : FitV l) {k : Nat} (hk : k < l.length) : l[k].2.2.size ≤ 16777216 := h _ (by simp)
theorem verAt_no {k : Nat} {v : Vr} (h : pv v.1 = false ∨ v.2.1 < -1 ∨ (k : Int) ≤ v.2.1 ∨ wordV (bs v.2.2) = false) : verAt k v = false := by
  cases hv : verAt k v
  · rfl
  · obtain ⟨h1, h2, h3, h4⟩ := verAt_iff.1 hv
    rcases h with h | h | h | h
    · rw [h] at h1; cases h1
    · omega
    · omega
    · rw [h] at h4; cases h4
theorem versV_bad {l : List Vr} {k : Nat} (hk : k < l.length) (h : verAt k l[k] = false) : versV l = false := by
  unfold versV; rw [versFrom_bad hk h, Bool.and_false]
theorem versV_long {l : List Vr} (h : ¬ l.length ≤ 12) : versV l = false := by unfold versV; rw [decide_eq_false h]; rfl
theorem versV_good {l : List Vr} {k : Nat} (hk : ¬ k < l.length) (h : versFrom 0 (l.take k) = true) (hl : l.length ≤ 12) : versV l = true := by
  unfold versV; rw [versFrom_all hk h, decide_eq_true hl]; rfl

set_option maxHeartbeats 4000000 in
set_option maxRecDepth 100000 in
theorem iVersionsValid_any (A : Option Addr) (c : Nat) (l : List Vr) (w : World) (hs : Sl w encV 3 A l) (hl : l.length ≤ 16777216) (hf : FitV l) :
    Calls Tryz.prog 71 #[.slice A l.length c] w fun e w' => e = .returned (.bool (versV l)) ∧ Below w.heap.size w w' := by
  have HS := Lib.hid hs
  have HF := Lib.hid hf
  clear hs hf
  by_cases h12 : l.length ≤ 12
  case neg =>
    rw [versV_long h12]
    go_enter Tryz.func71, Tryz.ntmps71
    go_wp2
    go_ret
    exact ⟨rfl, Below.refl _ _⟩
  go_enter Tryz.func71, Tryz.ntmps71
  go_wp2
  go_loopw [10] (fun i wr => ∃ (k : Nat), k ≤ l.length ∧ i = .int .i64 k ∧ Hid (versFrom 0 (l.take k) = true) ∧ Hid (Below w.heap.size w wr)) (fun i _ => l.length - (intOf i).toNat)
  case atStart => exact ⟨0, Nat.zero_le _, rfl, rfl, Below.refl _ _⟩
  case round =>
    obtain ⟨k, hk, rfl, hh, HB⟩ := hrel
    by_cases hlt : k < l.length
    · obtain ⟨b, o, rfl, hc0, hc1, hc2⟩ := (HS.out.below HB.out).getV hlt
      have hfk := HF.out.at hlt
      have HBAD := Lib.hid (@versV_bad l k hlt)
      have hnx := versFrom_take hlt
      rw [hh.out, Bool.true_and] at hnx
      have HNX := Lib.hid hnx
      clear hnx
      have HB2 := Lib.hid (HB.out.alloc HB.out.size (.cells #[.int .i64 l[k].1, .int .i64 l[k].2.1, .string l[k].2.2] 63))
      generalize l[k] = v at *
      cases h1 : pv v.1
      · have HE := Lib.hid (HBAD.out (verAt_no (.inl h1)))
        go_wp2_with (go_at_call 66; refine (iprintValid_any _ _).mono ?_; rintro e w' ⟨rfl, rfl⟩)
        go_ret
        exact ⟨ret_bool HE.out.symm, HB2.out⟩
      · by_cases h2 : v.2.1 < -1
        · have HE := Lib.hid (HBAD.out (verAt_no (.inr (.inl h2))))
          go_wp2_with (go_at_call 66; refine (iprintValid_any _ _).mono ?_; rintro e w' ⟨rfl, rfl⟩)
          go_ret
          exact ⟨ret_bool HE.out.symm, HB2.out⟩
        · by_cases h3 : (k : Int) ≤ v.2.1
          · have HE := Lib.hid (HBAD.out (verAt_no (.inr (.inr (.inl h3)))))
            go_wp2_with (go_at_call 66; refine (iprintValid_any _ _).mono ?_; rintro e w' ⟨rfl, rfl⟩)
            go_ret
            exact ⟨ret_bool HE.out.symm, HB2.out⟩
          · cases h4 : wordV (bs v.2.2)
            · have HE := Lib.hid (HBAD.out (verAt_no (.inr (.inr (.inr h4)))))
              go_wp2_with (first | (go_at_call 66; refine (iprintValid_any _ _).mono ?_; rintro e w' ⟨rfl, rfl⟩) | (go_at_call 65; refine (iWordValid_any _ _ hfk).mono ?_; rintro e w' ⟨rfl, rfl⟩))
              go_ret
              exact ⟨ret_bool HE.out.symm, HB2.out⟩
            · have HE := Lib.hid (HNX.out.trans (verAt_iff.2 ⟨h1, by omega, by omega, h4⟩))
              go_wp2_with (first | (go_at_call 66; refine (iprintValid_any _ _).mono ?_; rintro e w' ⟨rfl, rfl⟩) | (go_at_call 65; refine (iWordValid_any _ _ hfk).mono ?_; rintro e w' ⟨rfl, rfl⟩))
              go_roundw
              case rel => exact ⟨k + 1, by omega, by go_num, HE.out, HB2.out⟩
              case measure => simp [intOf]; omega
    · have HE := Lib.hid (versV_good hlt hh.out h12)
      go_wp2
      go_ret
      exact ⟨ret_bool HE.out.symm, HB.out⟩
set_option maxHeartbeats 4000000 in
set_option maxRecDepth 100000 in
theorem sVersionsValid_any (A : Option Addr) (c : Nat) (l : List Vr) (w : World) (hs : Sl w encV 3 A l) (hl : l.length ≤ 16777216) (hf : FitV l) :
    Calls Tryz.prog 78 #[.slice A l.length c] w fun e w' => e = .returned (.bool (versV l)) ∧ w = w' := by
  have HS := Lib.hid hs
  have HF := Lib.hid hf
  clear hs hf
  go_enter Tryz.func78, Tryz.ntmps78
  go_wp2
  go_loop [3] (fun i => ∃ (k : Nat), k ≤ l.length ∧ i = .int .i64 k ∧ Hid (versFrom 0 (l.take k) = true)) (fun i => l.length - (intOf i).toNat)
  case atStart => exact ⟨0, Nat.zero_le _, rfl, rfl⟩
  case round =>
    obtain ⟨k, hk, rfl, hh⟩ := hrel
    by_cases hlt : k < l.length
    · obtain ⟨b, o, rfl, hc0, hc1, hc2⟩ := HS.out.getV hlt
      have hfk := HF.out.at hlt
      have HBAD := Lib.hid (@versV_bad l k hlt)
      have hnx := versFrom_take hlt
      rw [hh.out, Bool.true_and] at hnx
      have HNX := Lib.hid hnx
      clear hnx
      generalize l[k] = v at *
      cases h1 : inI v.1 0 16777212
      · have HE := Lib.hid (HBAD.out (verAt_no (.inl h1)))
        go_wp2_with (go_at_call 41; refine (sl1In_any _ _ _ _).mono ?_; rintro e w' ⟨rfl, rfl⟩)
        go_ret
        exact ⟨ret_bool HE.out.symm, rfl⟩
      · cases h2 : inI v.2.1 (-1) ((k : Int) - 1)
        · have HE := Lib.hid (HBAD.out (verAt_no (by simp only [inI, decide_eq_false_iff_not] at h2; by_cases h : v.2.1 < -1; exact .inr (.inl h); exact .inr (.inr (.inl (by omega))))))
          go_wp2_with (go_at_call 41; refine (sl1In_any _ _ _ _).mono ?_; rintro e w' ⟨rfl, rfl⟩)
          go_ret
          exact ⟨ret_bool HE.out.symm, rfl⟩
        · cases h4 : wordV (bs v.2.2)
          · have HE := Lib.hid (HBAD.out (verAt_no (.inr (.inr (.inr h4)))))
            go_wp2_with (first | (go_at_call 41; refine (sl1In_any _ _ _ _).mono ?_; rintro e w' ⟨rfl, rfl⟩) | (go_at_call 127; refine (sWordValid_any _ _ hfk).mono ?_; rintro e w' ⟨rfl, rfl⟩))
            go_ret
            exact ⟨ret_bool HE.out.symm, rfl⟩
          · have h22 : -1 ≤ v.2.1 ∧ v.2.1 ≤ (k : Int) - 1 := by simpa [inI] using h2
            have HE := Lib.hid (HNX.out.trans (verAt_iff.2 ⟨h1, by omega, by omega, h4⟩))
            clear h22
            go_wp2_with (first | (go_at_call 41; refine (sl1In_any _ _ _ _).mono ?_; rintro e w' ⟨rfl, rfl⟩) | (go_at_call 127; refine (sWordValid_any _ _ hfk).mono ?_; rintro e w' ⟨rfl, rfl⟩))
            go_round
            case rel => exact ⟨k + 1, by omega, by go_num, HE.out⟩
            case measure => simp [intOf]; omega
    · by_cases h12 : l.length ≤ 12
      · have HE := Lib.hid (versV_good hlt hh.out h12)
        go_wp2
        go_ret
        exact ⟨ret_bool (by rw [HE.out]; simp; omega), rfl⟩
      · have HE := Lib.hid (versV_long h12)
        go_wp2
        go_ret
        exact ⟨ret_bool (by rw [HE.out]; simp; omega), rfl⟩

/-! ### prints of lists -/
/-! ### tags -/
def zeroT : Tg := (⟨#[]⟩, 0, 0, 0)
def mkT (l : List Vr) (name : ByteArray) (n : Int) : Tg := (makeTag l name n).getD zeroT
def mkOk (l : List Vr) (name : ByteArray) (n : Int) : Bool := (makeTag l name n).isSome
abbrev tgV (t : Tg) : Value := .agg #[.string t.1, .int .i64 t.2.1, .int .i64 t.2.2.1, .int .i64 t.2.2.2]
def MkR (l : List Vr) (name : ByteArray) (n : Int) (w : World) (e : Ending) (w' : World) : Prop :=
  e = .returned (.tuple #[tgV (mkT l name n), .bool (mkOk l name n)]) ∧ Below w.heap.size w w'
theorem MkR.no {l : List Vr} {name : ByteArray} {n : Int} (h : wordV (bs name) = false ∨ versV l = false ∨ n < 0 ∨ (l.length : Int) ≤ n) {w w' : World} (hb : Below w.heap.size w w') : MkR l name n w (.returned (.tuple #[.agg #[.string ⟨#[]⟩, .int .i64 0, .int .i64 0, .int .i64 0], .bool false])) w' := by
  have e := makeTag_none h
  exact ⟨by unfold mkT mkOk; rw [e]; rfl, hb⟩
theorem MkR.yes {l : List Vr} {name : ByteArray} {k : Nat} (hw : wordV (bs name) = true) (hv : versV l = true) (hk : k < l.length) {w w' : World} (hb : Below w.heap.size w w') : MkR l name k w (.returned (.tuple #[.agg #[.string name, .int .i64 (k : Int), .int .i64 l[k].1, .int .i64 (prList [prOf (bs name), (k : Int), l[k].1])], .bool true])) w' := by
  have e := makeTag_ok hw hv hk
  exact ⟨by unfold mkT mkOk; rw [e]; rfl, hb⟩
end Go.Proofs.YtkglfmgmmnfmbaaGreatDoor

/- Tags: copies, sizes, comparisons and marks of their slices, as laws make them. Written by structgen.py. -/
set_option linter.unusedVariables false
namespace Go.Proofs.YtkglfmgmmnfmbaaGreatDoor
open Go.RowKit

end Go.Proofs.YtkglfmgmmnfmbaaGreatDoor

/- 'copy' of elements of more than one cell, as run equations; a row written whole. -/
set_option linter.unusedVariables false
namespace Go.Proofs.YtkglfmgmmnfmbaaGreatDoor
open Go.RowKit

theorem run_copy_rowK {P : Program} (w : World) (dT sT ty elem : TypeId) (g o dLen dCap : Nat) (a : Addr) (sLen sCap : Nat) (cur : Array Value) (t : TypeId) (cs : List Value) (k m : Nat)
    (hu : P.underlying dT = some (.slice elem)) (hs : (P.info? elem).map (·.size) = some k) (hm : Nat.min sLen dLen = m)
    (hg : w.heap[g]? = some (.cells cur t (0, 0))) (hn : cs.length = m * k)
    (hsrc : ∀ j v, cs[j]? = some v → w.cell? (a.add j) = some v) (hfit : o + cs.length ≤ cur.size) (h1 : ∀ v ∈ cs, v.oneCell' = true) :
    (Builtin.copy_ #[dT, sT] ty #[.slice (some ⟨g, o, none⟩) dLen dCap, .slice (some a) sLen sCap]).run P w =
      .ok (goInt m) (w.setRow g (cur.toList.take o ++ cs ++ cur.toList.drop (o + cs.length)).toArray) := by
  have hl := run_loadCells_list (P := P) w a cs hsrc
  have hst := run_storeCells_at P g o t cs 0 cur w hg (by simpa using hfit) h1
  rw [hn] at hl
  cases hq : P.info? elem with
  | none => simp [hq] at hs
  | some i =>
    have hi : i.size = k := by simpa [hq] using hs
    simp [Builtin.copy_, run_underlying hu, Builtin.lenOf, Builtin.firstCells, sizeOf, typeInfo, hq, hi, hm, hl, hst]
end Go.Proofs.YtkglfmgmmnfmbaaGreatDoor

/- Pieces: copies, sizes, comparisons and marks of their slices, as laws make them. Written by structgen.py. -/
set_option linter.unusedVariables false
namespace Go.Proofs.YtkglfmgmmnfmbaaGreatDoor
open Go.RowKit

theorem encP_info : (Tryz.prog.info? 107).map (fun i => (i.zero, i.size, i.bytes)) = some (some (.agg #[.int .i64 0, .string ⟨#[]⟩]), 2, 24) := pc_info
set_option maxHeartbeats 4000000 in
set_option maxRecDepth 100000 in
theorem toPiece1 (a0 : Int) (a1 : ByteArray) (w : World) :
    Calls Tryz.prog 95 #[.agg #[.int .i64 a0, .string a1]] w fun e w' => e = .returned (.agg #[.int .i64 a0, .string a1]) ∧ Below w.heap.size w w' := by
  go_enter Tryz.func95, Tryz.ntmps95
  go_wp2
  exact bodyPost_ret (v := .agg #[.int .i64 a0, .string a1]) (by simp [results, Tryz.results95, go_sem]) rfl ⟨rfl, below3 _ _ _⟩
set_option maxHeartbeats 4000000 in
set_option maxRecDepth 100000 in
theorem toPieceS_any (A : Option Addr) (c : Nat) (l : List Pc) (w : World) (hs : Sl w encP 2 A l) (hl : l.length ≤ 16777216) :
    Calls Tryz.prog 44 #[.slice A l.length c] w (OwnRes 107 2 encP l w) := by
  obtain ⟨i0, hi0, hz0, hz1, hz2⟩ := info_parts encP_info
  have hmk := make_row (P := Tryz.prog) 27 107 i0 _ Tryz.underlying27 hi0 hz0 l.length hl (by omega)
  rw [hz1] at hmk
  have hfl := fun W : World => Filled.made W (Value.agg #[.int .i64 0, .string ⟨#[]⟩]).cells (l.length * 2) 107
  have HFL := Lib.hid hfl
  have HS := Lib.hid hs
  clear hs hfl hi0 hz0 hz1 hz2
  generalize madeCells (Value.agg #[.int .i64 0, .string ⟨#[]⟩]).cells (l.length * 2) = M at *
  go_enter Tryz.func44, Tryz.ntmps44
  go_wp2
  clear hmk
  go_loopw [4] (fun i wr => ∃ (k : Nat), k ≤ l.length ∧ i = .int .i64 k ∧ Filled wr w.heap.size (l.length * 2) 107 (flat encP (l.take k)) ∧ Below w.heap.size w wr) (fun i _ => l.length - (intOf i).toNat)
  case atStart => exact ⟨0, Nat.zero_le _, rfl, HFL.out w, (Below.refl _ _).alloc (Nat.le_refl _) _⟩
  case round =>
    obtain ⟨k, hk, rfl, hf, hb⟩ := hrel
    by_cases hlt : k < l.length
    · obtain ⟨b, o, rfl, hc0, hc1⟩ := (HS.out.below hb).getP hlt
      have hlen : (flat encP (l.take k)).length = k * 2 := by rw [flat_length (size := 2) (fun _ => rfl), List.length_take]; omega
      have HF := Lib.hid hf
      have HB := Lib.hid hb
      clear hf hb
      have hsucc : flat encP (l.take (k + 1)) = flat encP (l.take k) ++ encP l[k] := by rw [List.take_succ_eq_append_getElem hlt, flat_snoc]
      have HSC := Lib.hid hsucc
      have HLN := Lib.hid hlen
      clear hsucc hlen
      generalize l[k] = p at *
      go_wp2_with fail
      refine (toPiece1 _ _ _).mono ?_
      rintro e w2 ⟨rfl, hb2⟩
      have hf2 := HF.out.below hb2
      have HB2 := Lib.hid (HB.out.trans (hb2.mono HB.out.size))
      clear hb2
      have HST := Lib.hid (hf2.stores (encP p) (by rw [HLN.out]; simp [encP]; omega))
      obtain ⟨u0, hu0⟩ := hf2.cell (j := k * 2) (by omega)
      have hr0 := hf2.free (k * 2)
      obtain ⟨u1, hu1⟩ := hf2.cell (j := k * 2 + 1) (by omega)
      have hr1 := hf2.free (k * 2 + 1)
      clear hf2
      go_wp2
      go_roundw
      case rel => exact ⟨k + 1, by omega, by go_num, by rw [HSC.out]; have h := HST.out; rw [HLN.out] at h; exact h, Below.setCell (Below.setCell (HB2.out) (Nat.le_refl _) _) (Nat.le_refl _) _⟩
      case measure => simp [intOf]; omega
    · go_wp2
      go_ret
      rw [List.take_of_length_le (by omega)] at hf
      exact ⟨_, rfl, hf.own (fun _ => rfl) (Nat.le_refl _) (by unfold maxLen; omega), hb⟩
def FitsPiece (l : List Pc) : Prop := ∀ p ∈ l, p.2.size ≤ 1048576
def SizedPiece (l : List Pc) (left : Int) (w : World) (e : Ending) (w' : World) : Prop :=
  ∃ r : Int, e = .returned (.int .i64 r) ∧ r ≤ left ∧ (0 ≤ r → l.length ≤ 1048576 ∧ FitsPiece l) ∧ Below w.heap.size w w'
set_option maxHeartbeats 4000000 in
set_option maxRecDepth 100000 in
theorem szPiece1 (a0 : Int) (a1 : ByteArray) (left : Int) (w : World) (hs : a1.size ≤ maxLen) (h0 : 0 ≤ left) (h1 : left ≤ 1048576) :
    Calls Tryz.prog 75 #[.agg #[.int .i64 a0, .string a1], .int .i64 left] w fun e w' => e = .returned (.int .i64 (szT left a1.size)) ∧ Below w.heap.size w w' := by
  unfold maxLen at hs
  by_cases h : left < a1.size
  · have e : szT left a1.size = -1 := by unfold szT; rw [if_pos h]
    rw [e]; clear e
    go_enter Tryz.func75, Tryz.ntmps75
    go_wp2
    go_ret
    exact ⟨rfl, below1 _ 0⟩
  · have e : szT left a1.size = left - a1.size := by unfold szT; rw [if_neg h]
    rw [e]; clear e
    go_enter Tryz.func75, Tryz.ntmps75
    go_wp2
    go_ret
    exact ⟨rfl, below1 _ 0⟩
set_option maxHeartbeats 4000000 in
set_option maxRecDepth 100000 in
theorem szPieceS_any (A : Option Addr) (c : Nat) (l : List Pc) (left : Int) (w : World) (hs : Sl w encP 2 A l) (hl : l.length ≤ maxLen) (hm : ∀ p ∈ l, p.2.size ≤ maxLen) (h0 : 0 ≤ left) (h1 : left ≤ 1048576) :
    Calls Tryz.prog 32 #[.slice A l.length c, .int .i64 left] w (SizedPiece l left w) := by
  have HS := Lib.hid hs
  have HM := Lib.hid hm
  unfold maxLen at hl
  clear hs hm
  by_cases hlen : (l.length : Int) ≤ left
  · go_enter Tryz.func32, Tryz.ntmps32
    go_wp2
    go_loopw [1, 5] (fun v i wr => ∃ (k : Nat) (L : Int), k ≤ l.length ∧ i = .int .i64 k ∧ v = .int .i64 L ∧ 0 ≤ L ∧ L ≤ left ∧ Hid (FitsPiece (l.take k)) ∧ Below w.heap.size w wr) (fun _ i _ => l.length - (intOf i).toNat)
    case atStart => exact ⟨0, left - l.length, Nat.zero_le _, rfl, rfl, by omega, by omega, (by intro p hp; simp at hp), Below.refl _ _⟩
    case round =>
      obtain ⟨k, L, hk, rfl, rfl, hL0, hL1, hft, hb⟩ := hrel
      by_cases hlt : k < l.length
      · obtain ⟨b, o, rfl, hc0, hc1⟩ := (HS.out.below hb).getP hlt
        have hms := HM.out l[k] (by simp)
        have hms2 := hms
        unfold maxLen at hms2
        have hnext : l[k].2.size ≤ 1048576 → FitsPiece (l.take (k + 1)) := fun h p hp => by
          rw [List.take_succ_eq_append_getElem hlt, List.mem_append, List.mem_singleton] at hp
          rcases hp with hp | rfl
          · exact hft.out p hp
          · exact h
        have HN := Lib.hid hnext
        have HB := Lib.hid hb
        clear hnext hb
        generalize l[k] = p at *
        have hz := szPiece1 p.1 p.2 L
        by_cases hsz : (p.2.size : Int) ≤ L
        · rw [show szT L p.2.size = L - p.2.size from by unfold szT; rw [if_neg (by omega)]] at hz
          have HZ := Lib.hid hz
          clear hz
          go_wp2_with fail
          refine (HZ.out _ hms hL0 (by omega)).mono ?_
          rintro e w2 ⟨rfl, hb2⟩
          have HB2 := Lib.hid (Below_then HB.out hb2 (Nat.le_refl _))
          clear hb2
          go_wp2
          go_roundw
          case rel => exact ⟨k + 1, _, by omega, by go_num, rfl, by omega, by omega, HN.out (by omega), HB2.out⟩
          case measure => simp [intOf]; omega
        · rw [show szT L p.2.size = -1 from by unfold szT; rw [if_pos (by omega)]] at hz
          have HZ := Lib.hid hz
          clear hz
          go_wp2_with fail
          refine (HZ.out _ hms hL0 (by omega)).mono ?_
          rintro e w2 ⟨rfl, hb2⟩
          have HB2 := Lib.hid (Below_then HB.out hb2 (Nat.le_refl _))
          clear hb2
          go_wp2
          go_ret
          exact ⟨-1, rfl, by omega, fun h => absurd h (by omega), HB2.out⟩
      · go_wp2
        go_ret
        refine ⟨L, rfl, hL1, fun _ => ⟨by omega, ?_⟩, hb⟩
        have h := hft.out; rwa [List.take_of_length_le (by omega)] at h
  · go_enter Tryz.func32, Tryz.ntmps32
    go_wp2
    go_ret
    exact ⟨-1, rfl, by omega, fun h => absurd h (by omega), Below.refl _ _⟩
set_option maxHeartbeats 4000000 in
set_option maxRecDepth 100000 in
theorem eqPiece1 (a0 : Int) (a1 : ByteArray) (w : World) :
    Calls Tryz.prog 113 #[.agg #[.int .i64 a0, .string a1], .agg #[.int .i64 a0, .string a1]] w fun e w' => e = .returned (.bool true) ∧ Below w.heap.size w w' := by
  go_enter Tryz.func113, Tryz.ntmps113
  go_wp2
  go_ret
  exact ⟨rfl, ((Below.refl _ _).alloc (Nat.le_refl _) _).alloc (by simp) _⟩
set_option maxHeartbeats 4000000 in
set_option maxRecDepth 100000 in
theorem eqPieceS_same (A B : Option Addr) (c d : Nat) (l : List Pc) (w : World) (ha : Sl w encP 2 A l) (hb : Sl w encP 2 B l) (hl : l.length ≤ 16777216) :
    Calls Tryz.prog 55 #[.slice A l.length c, .slice B l.length d] w fun e w' => e = .returned (.bool true) ∧ Below w.heap.size w w' := by
  have HA := Lib.hid ha
  have HB := Lib.hid hb
  clear ha hb
  go_enter Tryz.func55, Tryz.ntmps55
  go_wp2
  go_loopw [5] (fun i wr => ∃ (k : Nat), k ≤ l.length ∧ i = .int .i64 k ∧ Below w.heap.size w wr) (fun i _ => l.length - (intOf i).toNat)
  case atStart => exact ⟨0, Nat.zero_le _, rfl, Below.refl _ _⟩
  case round =>
    obtain ⟨k, hk, rfl, hbw⟩ := hrel
    have HW := Lib.hid hbw
    clear hbw
    by_cases hlt : k < l.length
    · obtain ⟨b1, o1, rfl, hc0, hc1⟩ := (HA.out.below HW.out).getP hlt
      obtain ⟨b2, o2, rfl, hd0, hd1⟩ := (HB.out.below HW.out).getP hlt
      generalize l[k] = p at *
      replace hc0 := far_cell hc0
      replace hc1 := far_cell hc1
      replace hd0 := far_cell hd0
      replace hd1 := far_cell hd1
      go_wp2
      refine wp_region_far (by kernel_rfl) (by kernel_rfl) ?_
      repeat (go_big_quiet_step ((go_at_call 113; exact far_call (eqPiece1 _ _ _))))
      refine wpQuiet_nil ?_
      intro _ hwF
      obtain ⟨pF, hwF⟩ := hwF
      subst hwF
      go_wp2
      go_roundw
      case rel => exact ⟨k + 1, by omega, by go_num, Below_then HW.out (far_below _ _) (Nat.le_refl _)⟩
      case measure => simp [intOf]; omega
    · go_wp2
      go_ret
      exact ⟨rfl, HW.out⟩
def markPieceL (k n : Nat) : List Pc := (List.range n).map fun j => (((k + 2 * j + 0 : Nat) : Int), mk (markT (k + 2 * j + 1)))
theorem markPieceL_len (k n : Nat) : (markPieceL k n).length = n := by simp [markPieceL]
theorem markPieceL_succ (k n : Nat) : markPieceL k (n + 1) = markPieceL k n ++ [(((k + 2 * n + 0 : Nat) : Int), mk (markT (k + 2 * n + 1)))] := by simp [markPieceL, List.range_succ]
theorem markPieceL_at {k n j : Nat} (h : j < n) : (markPieceL k n)[j]'(by rw [markPieceL_len]; exact h) = (((k + 2 * j + 0 : Nat) : Int), mk (markT (k + 2 * j + 1))) := by simp [markPieceL]
set_option maxHeartbeats 4000000 in
set_option maxRecDepth 100000 in
theorem markPieceS_any (base : Nat) (v : Value) (l : List Pc) (k : Nat) (w : World) (h : Own w base 107 2 encP v l) (hl : l.length ≤ 16777216) (hk : k ≤ 100000000) :
    Calls Tryz.prog 57 #[v, .int .i64 k] w (Marked 107 2 encP base v (markPieceL k l.length) (k + 2 * l.length) w) := by
  by_cases h0 : 0 < l.length
  · obtain ⟨g, cap, rfl, hg, hlc, hcm, hf⟩ := h.row h0
    have HF := Lib.hid hf
    have hcm' := hcm
    unfold maxLen at hcm'
    clear hf h
    go_enter Tryz.func57, Tryz.ntmps57
    go_wp2
    go_loopw [1, 5] (fun sk si wr => ∃ (j K : Nat), j ≤ l.length ∧ si = .int .i64 (j : Int) ∧ sk = .int .i64 (K : Int) ∧ Hid (K = k + 2 * j) ∧ K ≤ 300000000 ∧ Filled wr g (cap * 2) 107 (flat encP (markPieceL k j)) ∧ Grew (.slice (some ⟨g, 0, none⟩) l.length cap) w wr) (fun _ si _ => l.length - (intOf si).toNat)
    case atStart => exact ⟨0, k, Nat.zero_le _, rfl, rfl, rfl, by omega, HF.out, Grew.refl _ _⟩
    case round =>
      obtain ⟨j, K, hj, rfl, rfl, hK, hKb, hf, hg2⟩ := hrel
      by_cases hlt : j < l.length
      · have hlen : (flat encP (markPieceL k j)).length = j * 2 := by rw [flat_length (size := 2) (fun _ => rfl), markPieceL_len]
        have hsucc : flat encP (markPieceL k (j + 1)) = flat encP (markPieceL k j) ++ [Value.int .i64 ((K + 0 : Nat) : Int), .string (mk (markT (K + 1)))] := by
          rw [markPieceL_succ, flat_snoc]; have := hK.out; subst this; rfl
        have HSC := Lib.hid hsucc
        have HLN := Lib.hid hlen
        have HK := hK
        have HF0 := Lib.hid hf
        have HG0 := Lib.hid hg2
        clear hsucc hlen hK hf hg2
        generalize flat encP (markPieceL k j) = D at *
        obtain ⟨u0, hu0⟩ := HF0.out.cell (j := j * 2) (by omega)
        have hr0 := HF0.out.free (j * 2)
        go_wp2_with fail
        refine (markText_at _ (K + 1) (by omega) _ (by omega)).mono ?_
        rintro e w2 ⟨rfl, hb2⟩
        have hst1 := Filled.stores_of [Value.int .i64 ((K + 0 : Nat) : Int)] (j := j * 2) HF0.out (by simp [HLN.out]) (by simp; omega)
        have HF2 := Lib.hid (hst1.below hb2)
        have HG2 := Lib.hid ((Grew.set (HG0.out) rfl _).trans (Grew.below hb2))
        clear hb2 hu0 hr0 hst1
        obtain ⟨u1, hu1⟩ := HF2.out.cell (j := j * 2 + 1) (by omega)
        have hr1 := HF2.out.free (j * 2 + 1)
        have HST := Lib.hid (Filled.stores_of [.string (mk (markT (K + 1)))] (j := j * 2 + 1) HF2.out (by simp [HLN.out]) (by simp; omega))
        go_wp2
        go_roundw
        case rel => exact ⟨j + 1, K + 2, by omega, by go_num, by go_num, by show _ = _; rw [HK.out]; omega, by have := HK.out; omega, by rw [HSC.out]; have h := HST.out; simpa [setAll, Nat.add_assoc, Int.add_assoc] using h, Grew.set (HG2.out) rfl _⟩
        case measure => simp [intOf]; omega
      · have hjl : j = l.length := by omega
        subst hjl
        have HG2 := Lib.hid hg2
        have HF2 := Lib.hid hf
        clear hg2 hf
        go_wp2
        go_ret
        have ho := HF2.out.ownc (base := base) (fun _ => rfl) hg hcm (by rw [markPieceL_len]; exact hlc)
        rw [markPieceL_len] at ho
        exact ⟨ret_int (by rw [hK.out]), ho, HG2.out⟩
  · have hz : l.length = 0 := by omega
    obtain ⟨A, c, hv, _, _, _⟩ := h.sl
    subst hv
    rw [hz] at h ⊢
    have H := Lib.hid h
    clear h
    go_enter Tryz.func57, Tryz.ntmps57
    go_wp2
    go_loopw [1, 5] (fun sk si wr => si = .int .i64 0 ∧ sk = .int .i64 (k : Int) ∧ w = wr) (fun _ _ _ => 0)
    case atStart => exact ⟨rfl, rfl, rfl⟩
    case round =>
      obtain ⟨rfl, rfl, rfl⟩ := hrel
      go_wp2
      go_ret
      exact ⟨rfl, H.out.empty hz (by rw [markPieceL_len]), Grew.refl _ _⟩
set_option maxHeartbeats 4000000 in
set_option maxRecDepth 100000 in
theorem heldPieceS_any (A : Option Addr) (c : Nat) (k n : Nat) (w : World) (hs : Sl w encP 2 A (markPieceL k n)) (hn : n ≤ 16777216) (hk : k ≤ 100000000) :
    Calls Tryz.prog 59 #[.slice A n c, .int .i64 k] w fun e w' => e = .returned (.int .i64 ((k + 2 * n : Nat) : Int)) ∧ Below w.heap.size w w' := by
  have HS := Lib.hid hs
  clear hs
  go_enter Tryz.func59, Tryz.ntmps59
  go_wp2
  go_loopw [1, 5] (fun sk si wr => ∃ (j K : Nat), j ≤ n ∧ si = .int .i64 (j : Int) ∧ sk = .int .i64 (K : Int) ∧ Hid (K = k + 2 * j) ∧ K ≤ 300000000 ∧ Below w.heap.size w wr) (fun _ si _ => n - (intOf si).toNat)
  case atStart => exact ⟨0, k, Nat.zero_le _, rfl, rfl, rfl, by omega, Below.refl _ _⟩
  case round =>
    obtain ⟨j, K, hj, rfl, rfl, hK, hKb, hb⟩ := hrel
    have HB0 := Lib.hid hb
    clear hb
    by_cases hlt : j < n
    · have HK := hK
      have hat := markPieceL_at (k := k) hlt
      rw [← hK.out] at hat
      clear hK
      obtain ⟨b, o, rfl, hc0, hc1⟩ := (HS.out.below HB0.out).getP (k := j) (by rw [markPieceL_len]; exact hlt)
      rw [hat] at hc0 hc1
      clear hat
      go_wp2
      have hf0 := far_cell hc0
      have hf1 := far_cell hc1
      have HC := Lib.hid (And.intro hc0 hc1)
      clear hc0 hc1
      refine wp_region_far (by kernel_rfl) (by kernel_rfl) ?_
      repeat (go_big_quiet_step ((go_at_call 61; exact far_call (markText_at _ (K + 1) (by omega) _ (by omega)))))
      refine wpQuiet_nil ?_
      intro _ hwF
      obtain ⟨pF, hwF⟩ := hwF
      subst hwF
      have HB2 := Lib.hid (Below_then HB0.out (far_below _ pF) (Nat.le_refl _))
      obtain ⟨hc0, hc1⟩ := HC.out
      replace hc0 := hf0 pF
      replace hc1 := hf1 pF
      clear hf0 hf1 HC
      generalize far _ pF = wF1 at *
      go_wp2
      go_roundw
      case rel => exact ⟨j + 1, K + 2, by omega, by go_num, by go_num, by show _ = _; rw [HK.out]; omega, by have := HK.out; omega, HB2.out⟩
      case measure => simp [intOf]; omega
    · have hjl : j = n := by omega
      subst hjl
      go_wp2
      go_ret
      exact ⟨ret_int (by rw [hK.out]), HB0.out⟩
/-- What is told of a slice of such structs that came in. -/
def PiecesIn (w : World) (A : Option Addr) (n c : Nat) : Prop := ∃ l : List Pc, l.length = n ∧ n ≤ c ∧ c ≤ maxLen ∧ Sl w encP 2 A l ∧ ∀ p ∈ l, p.2.size ≤ maxLen
end Go.Proofs.YtkglfmgmmnfmbaaGreatDoor
