/- Texts in one: Dr1, W2, Fa, Dq. -/
import Derived.Test.YtokelopllbaikaaGreatDoorRd
import Derived.Test.YtokelopllbaikaaGreatDoorGa1
import Derived.Test.YtokelopllbaikaaGreatDoorGa2
import Derived.Test.YtokelopllbaikaaGreatDoorGa0
/- Drawn inputs: names, prints, and the like. -/
set_option linter.unusedVariables false
namespace Go.Proofs.YtokelopllbaikaaGreatDoor
open Go.RowKit

/-- A drawn result that lies in no memory: 'P v'; at most 'C' bytes were read. -/
def Drew (P : Value → Prop) (C : Nat) (w : World) (g p : Nat) (e : Ending) (w' : World) : Prop :=
  ∃ (v : Value) (p' : Nat), e = .returned v ∧ P v ∧ Only g w w' ∧ Rdr w' g p' ∧ p' ≤ p + C
def ShortStr (m : Nat) (v : Value) : Prop := ∃ s : ByteArray, v = .string s ∧ s.size ≤ m
theorem lit_cell {w w1 : World} {g : Nat} {cs : Array Value} {E : TypeId} (ho : Only g (w.alloc (.cells cs E)) w1) (hg : g < w.heap.size) {k : Nat} {u : Value} (hu : cs[k]? = some u) : w1.cell? ⟨w.heap.size, k, none⟩ = some u :=
  ho.cell (by omega) (by rw [cell_of_row _ _ k _ E (0, 0) (heap_alloc_new w _)]; exact hu)

def shortB (m : Nat) : Value → Bool | .string s => decide (s.size ≤ m) | _ => false
def intB (lo hi : Int) : Value → Bool | .int .i64 n => decide (lo ≤ n) && decide (n ≤ hi) | _ => false
theorem shortB_iff {m : Nat} {v : Value} (h : shortB m v = true) : ∃ s, v = .string s ∧ s.size ≤ m := by
  unfold shortB at h; split at h
  · exact ⟨_, rfl, by simpa using h⟩
  · cases h
theorem intB_iff {lo hi : Int} {v : Value} (h : intB lo hi v = true) : ∃ n, v = .int .i64 n ∧ lo ≤ n ∧ n ≤ hi := by
  unfold intB at h; split at h
  · exact ⟨_, rfl, by simpa using h⟩
  · cases h
/-- 'pick' of the place of a literal's element. -/
theorem pick_lit {w : World} {g p : Nat} {cs : Array Value} {E : TypeId} (k : Nat) (chk : Value → Bool) (hr : Rdr w g p) (hp : p ≤ 1000000000) (hk : cs.size = k) (hpos : 0 < k) (hb : k ≤ 1000) (hc : cs.toList.all chk = true) :
    Calls Tryz.prog 53 #[.pointer (some ⟨g, 0, none⟩), .int .i64 (k : Int)] (w.alloc (.cells cs E)) fun e w' =>
      ∃ (x : Nat) (u : Value), e = .returned (.int .i64 x) ∧ x < k ∧ w'.cell? ⟨w.heap.size, x, none⟩ = some u ∧ chk u = true ∧ Only g w w' ∧ Rdr w' g (p + 1) := by
  refine (pick_any (k : Int) g p _ (hr.alloc _) hp (by omega)).mono ?_
  rintro e w' ⟨x, rfl, hx, ho, hr'⟩
  have hxk : x < cs.size := by omega
  refine ⟨x, cs[x], rfl, by omega, lit_cell ho hr.lt (Array.getElem?_eq_getElem hxk), List.all_eq_true.1 hc _ (by simp), (Only.of_below ((Below.refl _ _).alloc (Nat.le_refl _) _)).trans ho, hr'⟩
theorem pick_str {w : World} {g p : Nat} {cs : Array Value} {E : TypeId} (k m : Nat) (hr : Rdr w g p) (hp : p ≤ 1000000000) (hk : cs.size = k) (hpos : 0 < k) (hb : k ≤ 1000) (hc : cs.toList.all (shortB m) = true) :
    Calls Tryz.prog 53 #[.pointer (some ⟨g, 0, none⟩), .int .i64 (k : Int)] (w.alloc (.cells cs E)) fun e w' =>
      ∃ (x : Nat) (s : ByteArray), e = .returned (.int .i64 x) ∧ x < k ∧ w'.cell? ⟨w.heap.size, x, none⟩ = some (.string s) ∧ s.size ≤ m ∧ Only g w w' ∧ Rdr w' g (p + 1) := by
  refine (pick_lit k (shortB m) hr hp hk hpos hb hc).mono ?_
  rintro e w' ⟨x, u, rfl, hx, hu, hcu, ho, hr'⟩
  obtain ⟨s, rfl, hs⟩ := shortB_iff hcu
  exact ⟨x, s, rfl, hx, hu, hs, ho, hr'⟩
theorem pick_int {w : World} {g p : Nat} {cs : Array Value} {E : TypeId} (k : Nat) (lo hi : Int) (hr : Rdr w g p) (hp : p ≤ 1000000000) (hk : cs.size = k) (hpos : 0 < k) (hb : k ≤ 1000) (hc : cs.toList.all (intB lo hi) = true) :
    Calls Tryz.prog 53 #[.pointer (some ⟨g, 0, none⟩), .int .i64 (k : Int)] (w.alloc (.cells cs E)) fun e w' =>
      ∃ (x : Nat) (n : Int), e = .returned (.int .i64 x) ∧ x < k ∧ w'.cell? ⟨w.heap.size, x, none⟩ = some (.int .i64 n) ∧ lo ≤ n ∧ n ≤ hi ∧ Only g w w' ∧ Rdr w' g (p + 1) := by
  refine (pick_lit k (intB lo hi) hr hp hk hpos hb hc).mono ?_
  rintro e w' ⟨x, u, rfl, hx, hu, hcu, ho, hr'⟩
  obtain ⟨n, rfl, h1, h2⟩ := intB_iff hcu
  exact ⟨x, n, rfl, hx, hu, h1, h2, ho, hr'⟩

/-- A drawn result of a 'Draw..' function: no memory that was there has turned. -/
def Drawn (P : Value → Prop) (w : World) (e : Ending) (w' : World) : Prop := ∃ v, e = .returned v ∧ P v ∧ Below w.heap.size w w'
end Go.Proofs.YtokelopllbaikaaGreatDoor

/- Walks: words and folded names. -/
set_option linter.unusedVariables false
namespace Go.Proofs.YtokelopllbaikaaGreatDoor
open Go.RowKit
attribute [local go_sem] mk_size mk_append i32_byte

theorem mk_nil : mk [] = ⟨#[]⟩ := rfl
/-! ### words -/
def wordC (c : UInt8) : Bool := smallC c || digitC c
theorem wordV_bad {s : ByteArray} {k : Nat} (h : k < s.size) (hb : wordC s[k] = false) : wordV (bs s) = false := by
  unfold wordV
  rw [Bool.and_eq_false_iff]; right
  rw [List.all_eq_false]
  exact ⟨s[k], by simp [bs, ByteArray.getElem_eq_getElem_data], by unfold wordC at hb; simp [hb]⟩
theorem wordV_len {s : ByteArray} (h : ¬ (1 ≤ s.size ∧ s.size ≤ 8)) : wordV (bs s) = false := by
  unfold wordV
  have : decide (1 ≤ (bs s).length ∧ (bs s).length ≤ 8) = false := by simpa [size_bs] using h
  rw [this]; rfl
theorem head_bs {s : ByteArray} (h : 0 < s.size) : (bs s).headD 0 = s[0] := by
  have := get_bs s 0 h
  cases hb : bs s with
  | nil => have := size_bs s; rw [hb] at this; simp at this; omega
  | cons c r => simp [hb] at this ⊢; exact this
theorem wordV_dig {s : ByteArray} (h : 0 < s.size) (hd : digitC s[0] = true) : wordV (bs s) = false := by
  unfold wordV; rw [head_bs h, hd]; simp
theorem wordV_good {s : ByteArray} {k : Nat} (h1 : 1 ≤ s.size) (h2 : s.size ≤ 8) (hd : digitC s[0] = false) (hk : ¬ k < s.size) (ho : AllUpto wordC s k) : wordV (bs s) = true := by
  unfold wordV; rw [head_bs h1, hd]
  have := ho.all hk
  simp only [Bool.and_eq_true, decide_eq_true_eq, Bool.not_false, and_true, size_bs]
  exact ⟨⟨h1, h2⟩, this⟩
set_option maxHeartbeats 2000000 in
set_option maxRecDepth 100000 in
theorem iWordValid_any (s : ByteArray) (w : World) (hs : s.size ≤ 16777216) :
    Calls Tryz.prog 26 #[.string s] w fun e w' => e = .returned (.bool (wordV (bs s))) ∧ w = w' := by
  by_cases hl1 : 1 ≤ s.size
  · by_cases hl2 : s.size ≤ 8
    · have h0 : 0 < s.size := hl1
      have hby0 := s[0].toNat_lt
      cases hd : inI s[0].toNat 48 57
      · go_enter Tryz.func26, Tryz.ntmps26
        go_wp2_with (go_at_call 46; refine (iisDigit_any _ _).mono ?_; rintro e w' ⟨rfl, rfl⟩)
        go_loop [3] (fun i => ∃ k : Nat, k ≤ s.size ∧ i = .int .i64 k ∧ AllUpto wordC s k) (fun i => s.size - (intOf i).toNat)
        case atStart => exact ⟨0, Nat.zero_le _, rfl, AllUpto.zero _ s⟩
        case round =>
          obtain ⟨k, hk, rfl, ho⟩ := hrel
          by_cases hlt : k < s.size
          · have hby := s[k].toNat_lt
            cases hs1 : inI s[k].toNat 97 122
            · cases hs2 : inI s[k].toNat 48 57
              · go_wp2_with (first | (go_at_call 47; refine (iisSmall_any _ _).mono ?_; rintro e w' ⟨rfl, rfl⟩) | (go_at_call 46; refine (iisDigit_any _ _).mono ?_; rintro e w' ⟨rfl, rfl⟩))
                go_ret
                exact ⟨ret_bool (wordV_bad hlt (by unfold wordC smallC digitC; rw [hs1, hs2]; rfl)).symm, rfl⟩
              · go_wp2_with (first | (go_at_call 47; refine (iisSmall_any _ _).mono ?_; rintro e w' ⟨rfl, rfl⟩) | (go_at_call 46; refine (iisDigit_any _ _).mono ?_; rintro e w' ⟨rfl, rfl⟩))
                go_round
                case rel => exact ⟨k + 1, by omega, by go_num, ho.succ hlt (by unfold wordC smallC digitC; rw [hs2]; simp)⟩
                case measure => simp [intOf]; omega
            · go_wp2_with (first | (go_at_call 47; refine (iisSmall_any _ _).mono ?_; rintro e w' ⟨rfl, rfl⟩) | (go_at_call 46; refine (iisDigit_any _ _).mono ?_; rintro e w' ⟨rfl, rfl⟩))
              go_round
              case rel => exact ⟨k + 1, by omega, by go_num, ho.succ hlt (by unfold wordC smallC digitC; rw [hs1]; simp)⟩
              case measure => simp [intOf]; omega
          · go_wp2
            go_ret
            exact ⟨ret_bool (wordV_good hl1 hl2 hd hlt ho).symm, rfl⟩
      · go_enter Tryz.func26, Tryz.ntmps26
        go_wp2_with (go_at_call 46; refine (iisDigit_any _ _).mono ?_; rintro e w' ⟨rfl, rfl⟩)
        go_ret
        exact ⟨ret_bool (wordV_dig h0 hd).symm, rfl⟩
    · go_enter Tryz.func26, Tryz.ntmps26
      go_wp2
      go_ret
      exact ⟨ret_bool (wordV_len (by omega)).symm, rfl⟩
  · go_enter Tryz.func26, Tryz.ntmps26
    go_wp2
    go_ret
    exact ⟨ret_bool (wordV_len (by omega)).symm, rfl⟩

set_option maxHeartbeats 2000000 in
set_option maxRecDepth 100000 in
theorem sWordValid_any (s : ByteArray) (w : World) (hs : s.size ≤ 16777216) :
    Calls Tryz.prog 84 #[.string s] w fun e w' => e = .returned (.bool (wordV (bs s))) ∧ w = w' := by
  go_enter Tryz.func84, Tryz.ntmps84
  go_wp2
  go_loop [3] (fun i => ∃ k : Nat, k ≤ s.size ∧ i = .int .i64 k ∧ AllUpto wordC s k ∧ (0 < k → ∃ h : 0 < s.size, digitC s[0] = false)) (fun i => s.size - (intOf i).toNat)
  case atStart => exact ⟨0, Nat.zero_le _, rfl, AllUpto.zero _ s, fun h => absurd h (by omega)⟩
  case round =>
    obtain ⟨k, hk, rfl, ho, hd⟩ := hrel
    have HD := Lib.hid hd
    clear hd
    by_cases hlt : k < s.size
    · have hby := s[k].toNat_lt
      by_cases h1 : 97 ≤ (s[k].toNat : Int)
      · by_cases h2 : (s[k].toNat : Int) ≤ 122
        · have hc : wordC s[k] = true := by unfold wordC smallC inI; simp; omega
          have HC := Lib.hid hc
          clear hc
          go_wp2
          go_round
          case rel => exact ⟨k + 1, by omega, by go_num, ho.succ hlt HC.out, fun _ => by
            by_cases h0 : 0 < k
            · exact HD.out h0
            · have e : k = 0 := by omega
              subst e
              exact ⟨hlt, by unfold digitC inI; simp; omega⟩⟩
          case measure => simp [intOf]; omega
        · have hc : wordC s[k] = false := by unfold wordC smallC digitC inI; simp; omega
          have HC := Lib.hid hc
          clear hc
          by_cases h0 : k = 0
          · subst h0
            go_wp2
            go_ret
            exact ⟨ret_bool (wordV_bad hlt HC.out).symm, rfl⟩
          · have h00 : ((k : Int) == 0) = false := by simp; omega
            go_wp2
            go_ret
            exact ⟨ret_bool (wordV_bad hlt HC.out).symm, rfl⟩
      · by_cases h0 : k = 0
        · subst h0
          by_cases h3 : digitC s[0] = true
          · have HC := Lib.hid h3
            clear h3
            go_wp2
            go_ret
            exact ⟨ret_bool (wordV_dig hlt HC.out).symm, rfl⟩
          · have hc : wordC s[0] = false := by unfold wordC smallC; simp [h3]; simp [inI]; omega
            have HC := Lib.hid hc
            clear hc h3
            go_wp2
            go_ret
            exact ⟨ret_bool (wordV_bad hlt HC.out).symm, rfl⟩
        · have h00 : ((k : Int) == 0) = false := by simp; omega
          by_cases h3 : 48 ≤ (s[k].toNat : Int)
          · by_cases h4 : (s[k].toNat : Int) ≤ 57
            · have hc : wordC s[k] = true := by unfold wordC digitC inI; simp; omega
              have HC := Lib.hid hc
              clear hc
              go_wp2
              go_round
              case rel => exact ⟨k + 1, by omega, by go_num, ho.succ hlt HC.out, fun _ => HD.out (by omega)⟩
              case measure => simp [intOf]; omega
            · have hc : wordC s[k] = false := by unfold wordC smallC digitC inI; simp; omega
              have HC := Lib.hid hc
              clear hc
              go_wp2
              go_ret
              exact ⟨ret_bool (wordV_bad hlt HC.out).symm, rfl⟩
          · have hc : wordC s[k] = false := by unfold wordC smallC digitC inI; simp; omega
            have HC := Lib.hid hc
            clear hc
            go_wp2
            go_ret
            exact ⟨ret_bool (wordV_bad hlt HC.out).symm, rfl⟩
    · go_wp2_with (go_at_call 109; refine (sl1In_any _ _ _ _).mono ?_; rintro e w' ⟨rfl, rfl⟩)
      go_ret
      refine ⟨ret_bool ?_, rfl⟩
      by_cases h0 : 0 < k
      · obtain ⟨_, h3⟩ := HD.out h0
        by_cases h8 : s.size ≤ 8
        · rw [wordV_good (by omega) h8 h3 hlt ho]; simp [inI]; omega
        · rw [wordV_len (by omega)]; simp [inI]; omega
      · rw [wordV_len (by omega)]; simp [inI]; omega
end Go.Proofs.YtokelopllbaikaaGreatDoor

/- Files below a root, sizes, quotas, archives, in plain Lean. No program in sight. -/
set_option linter.unusedVariables false
namespace Go.Proofs.YtokelopllbaikaaGreatDoor
--BEGIN
/-! ### files -/
def filesP (s : List Pc) : Nat → Int → List Bs → List Bs
  | 0, _, _ => []
  | f + 1, p, ps => ((folderOf s p).getD []).flatMap fun e => if (fileOf s e.2).isSome then [joinP (ps ++ [tx e.1])] else filesP s f e.2 (ps ++ [tx e.1])
def allF (s : List Pc) (root : Int) : List Bs := if storeV s then filesP s 3 root [] else []
def specF (s : List Pc) (p : Int) (ps : List Bs) : List Bs := if (fileOf s p).isSome && !ps.isEmpty then [joinP ps] else filesP s (3 - ps.length) p ps
def contentAt (s : List Pc) (root : Int) (path : Bs) : Bs := (readAt s root path).getD []
def sizeOf' (s : List Pc) (root : Int) (l : List Bs) : Int := l.foldl (fun n p => n + ((contentAt s root p).length : Int)) 0
def totalP (s : List Pc) (root : Int) : Int := sizeOf' s root (allF s root)
def usedP (s : List Pc) (root : Int) (path : Bs) : Int := if (pathP path).isSome && storeV s then sizeOf' s root ((allF s root).filter fun f => belowP f path) else -1
abbrev Qt := ByteArray × Int
/-! ### archives -/
structure Ar where
  ps : List Pc
  op : Int
  vs : List Vr
def archV (a : Ar) : Bool := storeV a.ps && (versV a.vs && ((folderOf a.ps a.op).isSome && a.vs.all fun v => (folderOf a.ps v.1).isSome))
def newA (s : List Pc) : Ar × Bool := if (putT s (mk (foldT []))).2.2 then (⟨(putT s (mk (foldT []))).1, (putT s (mk (foldT []))).2.1, []⟩, true) else (⟨[], 0, []⟩, false)
--END
end Go.Proofs.YtokelopllbaikaaGreatDoor

/- Drawn inputs: paths. -/
set_option linter.unusedVariables false
namespace Go.Proofs.YtokelopllbaikaaGreatDoor
open Go.RowKit
theorem lit_str {w w1 : World} {g : Nat} {cs : Array Value} {E : TypeId} {m k : Nat} (ho : Only g (w.alloc (.cells cs E)) w1) (hg : g < w.heap.size) (hk : k < cs.size) (hc : cs.toList.all (shortB m) = true) : ∃ s, w1.cell? ⟨w.heap.size, k, none⟩ = some (.string s) ∧ s.size ≤ m := by
  obtain ⟨s, hs, hz⟩ := shortB_iff (List.all_eq_true.1 hc cs[k] (by simp))
  exact ⟨s, lit_cell ho hg (by rw [Array.getElem?_eq_getElem hk, hs]), hz⟩
set_option maxHeartbeats 4000000 in
set_option maxRecDepth 100000 in
theorem l20Path_any (n : Int) (g p : Nat) (w : World) (hr : Rdr w g p) (hp : p ≤ 900000000) (hn : n ≤ 1000000000) :
    Calls Tryz.prog 54 #[.pointer (some ⟨g, 0, none⟩), .int .i64 n] w (Drew (ShortStr 9) 2 w g p) := by
  have HR := Lib.hid hr
  clear hr
  go_enter Tryz.func54, Tryz.ntmps54
  go_wp2_with fail
  refine (odd_any _ _ _ _ HR.out (by omega) hn).mono ?_
  rintro e w1 ⟨x, p1, rfl, ho1, hr1, hp1⟩
  have HR1 := Lib.hid hr1
  have HO1 := Lib.hid ho1
  clear hr1 ho1
  cases x
  · go_wp2_with fail
    refine (pick_int 13 0 7 (HR1.out.alloc _) (by omega) rfl (by omega) (by omega) (by decide)).mono ?_
    rintro e w2 ⟨x, m, rfl, hx, hc, hm0, hm7, ho2, hr2⟩
    obtain ⟨N, rfl⟩ := Int.eq_ofNat_of_zero_le hm0
    have hN : N < 8 := by omega
    have hcc : w2.cell? ⟨w1.heap.size + 1, x, none⟩ = some (.int .i64 (N : Int)) := by simpa using hc
    clear hc
    obtain ⟨s, hcs, hs⟩ := lit_str (k := N) (m := 9) ho2 HR1.out.lt hN (by decide)
    have HR2 := Lib.hid hr2
    have HO2 := Lib.hid ((Only.of_below ((Below.refl w1.heap.size w1).alloc (Nat.le_refl _) _)).trans ho2)
    clear hr2 ho2
    go_wp2_with fail
    go_ret
    exact ⟨_, _, rfl, ⟨_, rfl, hs⟩, HO1.out.trans HO2.out, HR2.out, by omega⟩
  · go_wp2_with fail
    refine (pick_str 6 9 HR1.out (by omega) rfl (by omega) (by omega) (by decide)).mono ?_
    rintro e w2 ⟨x, s, rfl, hx, hc, hs, ho2, hr2⟩
    have HR2 := Lib.hid hr2
    have HO2 := Lib.hid ho2
    clear hr2 ho2
    go_wp2_with fail
    go_ret
    exact ⟨_, _, rfl, ⟨_, rfl, hs⟩, HO1.out.trans HO2.out, HR2.out, by omega⟩
end Go.Proofs.YtokelopllbaikaaGreatDoor
