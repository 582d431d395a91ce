/- Dropping, as the program's loop goes, in plain Lean. No program in sight. -/
import Derived.Test.YtkglfmgmmnfmbaaGreatDoorGc3
import Derived.Test.YtkglfmgmmnfmbaaGreatDoorS3
set_option linter.unusedVariables false
namespace Go.Proofs.YtkglfmgmmnfmbaaGreatDoor
theorem lastD_one (l : List En) (n : Bs) : lastD [l] [n] = (0, (dropE l n).1) := by rw [lastD, if_pos rfl]
theorem lastD_snoc : ∀ (fs : List (List En)) (ns : List Bs) (l : List En) (n : Bs), fs.length = ns.length →
    lastD (fs ++ [l]) (ns ++ [n]) = if (dropE l n).1 = [] then (if fs = [] then (0, []) else lastD fs ns) else (fs.length, (dropE l n).1)
  | [], [], l, n, _ => by
    show lastD [l] [n] = _
    rw [lastD_one]
    by_cases h : (dropE l n).1 = []
    · rw [if_pos h, if_pos rfl, h]
    · rw [if_neg h]; rfl
  | [], _ :: _, _, _, h => by cases h
  | _ :: _, [], _, _, h => by cases h
  | l0 :: fs, n0 :: ns, l, n, h => by
    have hl : fs.length = ns.length := by simpa using h
    have ih := lastD_snoc fs ns l n hl
    show lastD (l0 :: (fs ++ [l])) (n0 :: (ns ++ [n])) = _
    rw [lastD, if_neg (by simp), ih]
    by_cases hd : (dropE l n).1 = []
    · simp only [if_pos hd]
      rw [if_neg (List.cons_ne_nil _ _)]
      by_cases hf : fs = []
      · subst hf
        have hn : ns = [] := List.eq_nil_of_length_eq_zero hl.symm
        subst hn
        rw [if_pos rfl, lastD_one]; rfl
      · have hn : ns ≠ [] := fun e => hf (List.eq_nil_of_length_eq_zero (by rw [hl, e]; rfl))
        simp only [if_neg hf]
        rw [lastD, if_neg hn]
    · simp only [if_neg hd]; rfl
theorem lastD_take {fs : List (List En)} {ns : List Bs} (h : fs.length = ns.length) {k : Nat} (hk : k < fs.length) :
    lastD (fs.take (k + 1)) (ns.take (k + 1)) = if (dropE fs[k] (ns[k]'(by omega))).1 = [] then (if k = 0 then (0, []) else lastD (fs.take k) (ns.take k)) else (k, (dropE fs[k] (ns[k]'(by omega))).1) := by
  have hk2 : k < ns.length := by omega
  rw [List.take_succ_eq_append_getElem hk, List.take_succ_eq_append_getElem hk2, lastD_snoc _ _ _ _ (by rw [List.length_take, List.length_take, h])]
  have e : (fs.take k).length = k := by rw [List.length_take]; omega
  have e2 : fs.take k = [] ↔ k = 0 := by
    constructor
    · intro h0; rw [h0] at e; simpa using e.symm
    · rintro rfl; rfl
  rw [e]
  by_cases h0 : k = 0
  · subst h0; simp
  · rw [if_neg (fun h => h0 (e2.1 h)), if_neg h0]
/-- What the loop keeps: the folders behind leave nothing. -/
def LastK (fs : List (List En)) (ns : List Bs) (k : Nat) : Prop := lastD fs ns = lastD (fs.take (k + 1)) (ns.take (k + 1))
theorem LastK.start {fs : List (List En)} {ns : List Bs} (h : fs.length = ns.length) {k : Nat} (hk : k + 1 = fs.length) : LastK fs ns k := by
  unfold LastK; rw [hk, List.take_length, List.take_of_length_le (by omega)]
theorem LastK.next {fs : List (List En)} {ns : List Bs} (h : fs.length = ns.length) {k : Nat} (hk : k + 1 < fs.length) (hL : LastK fs ns (k + 1)) (hD : (dropE fs[k + 1] (ns[k + 1]'(by omega))).1 = []) : LastK fs ns k := by
  unfold LastK at *
  rw [hL, lastD_take h hk, if_pos hD, if_neg (by omega)]
theorem LastK.stop {fs : List (List En)} {ns : List Bs} (h : fs.length = ns.length) {k : Nat} (hk : k < fs.length) (hL : LastK fs ns k) (hD : (dropE fs[k] (ns[k]'(by omega))).1 ≠ [] ∨ k = 0) : lastD fs ns = (k, (dropE fs[k] (ns[k]'(by omega))).1) := by
  rw [show lastD fs ns = _ from hL, lastD_take h hk]
  by_cases hd : (dropE fs[k] (ns[k]'(by omega))).1 = []
  · rcases hD with h1 | rfl
    · exact absurd hd h1
    · rw [if_pos hd, if_pos rfl, hd]
  · rw [if_neg hd]
/-- Where the loop stands, and what is left there. -/
def DropK (fs : List (List En)) (ns : List Bs) (k : Nat) (L : List En) : Prop := k < fs.length ∧ LastK fs ns k ∧ L = (dropE (fs.getD k []) (ns.getD k [])).1
theorem DropK.start {fs : List (List En)} {ns : List Bs} (h : fs.length = ns.length) {k : Nat} (hk : k + 1 = fs.length) : DropK fs ns k (dropE (fs.getD k []) (ns.getD k [])).1 := ⟨by omega, LastK.start h hk, rfl⟩
theorem DropK.next {fs : List (List En)} {ns : List Bs} (h : fs.length = ns.length) {k : Nat} (hL : DropK fs ns (k + 1) []) : DropK fs ns k (dropE (fs.getD k []) (ns.getD k [])).1 := by
  obtain ⟨h1, h2, h3⟩ := hL
  have hn : k + 1 < ns.length := by omega
  rw [List.getD_eq_getElem?_getD, List.getElem?_eq_getElem h1, List.getD_eq_getElem?_getD, List.getElem?_eq_getElem hn] at h3
  exact ⟨by omega, LastK.next h h1 h2 h3.symm, rfl⟩
theorem DropK.stop {fs : List (List En)} {ns : List Bs} (h : fs.length = ns.length) {k : Nat} {L : List En} (hL : DropK fs ns k L) (hd : L ≠ [] ∨ k = 0) : lastD fs ns = (k, L) := by
  obtain ⟨h1, h2, h3⟩ := hL
  have hn : k < ns.length := by omega
  rw [List.getD_eq_getElem?_getD, List.getElem?_eq_getElem h1, List.getD_eq_getElem?_getD, List.getElem?_eq_getElem hn] at h3
  have h3 : L = (dropE fs[k] ns[k]).1 := h3
  subst h3
  exact LastK.stop h h1 h2 hd
theorem foldsD_len (s : List Pc) : ∀ (ps : List Bs) (p : Int), (foldsD s p ps).length = ps.length
  | [], _ => rfl
  | n :: r, p => by rw [foldsD, List.length_cons, List.length_cons, foldsD_len s r]
theorem foldsD_valid {s : List Pc} : ∀ (ps : List Bs) (p : Int), ∀ l ∈ foldsD s p ps, entsV l = true
  | [], _, l, hl => by cases hl
  | n :: r, p, l, hl => by
    rw [foldsD] at hl
    rcases List.mem_cons.1 hl with rfl | hl
    · cases h : folderOf s p with
      | none => rfl
      | some x => exact folder_valid h
    · exact foldsD_valid r _ l hl
theorem dropA_I {s : List Pc} {root : Int} {path n : Bs} {r : List Bs} (hs : storeV s = true) (hp : pathP path = some (n :: r)) (hw : (walkP s root (n :: r)).isSome = true) {k : Nat} {L : List En} (hL : lastD (foldsD s root (n :: r)) (n :: r) = (k, L)) :
    dropA s root path = match (if (putT s (mk (foldT L))).2.2 then putF (putT s (mk (foldT L))).1 ((foldsD s root (n :: r)).take k) ((n :: r).take k) (prOf (foldT L)) else none) with | some x => (x.1, x.2, true) | none => (s, root, false) := by
  unfold dropA
  rw [hs, if_pos rfl, hp]
  show (match dropP s root (n :: r) with | some x => (x.1, x.2, true) | none => (s, root, false)) = _
  rw [dropP_I (List.cons_ne_nil _ _) hw]
  unfold dropI
  rw [hL]
  simp only
  rw [putF_first]
end Go.Proofs.YtkglfmgmmnfmbaaGreatDoor
