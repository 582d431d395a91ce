/- Words of a line, paths joined: the library's SplitN and Join at a space. -/
import Derived.Test.YtkglfmgmmnfmbaaGreatDoorGb3
import Derived.Test.YtkglfmgmmnfmbaaGreatDoorGa4
import Derived.Test.YtkglfmgmmnfmbaaGreatDoorGb4
set_option linter.unusedVariables false
namespace Go.Proofs.YtkglfmgmmnfmbaaGreatDoor
open Go.RowKit
theorem splitS_skip {c x : UInt8} (h : x ≠ c) (r : Bs) : splitS c (x :: r) = onHead x (splitS c r) := by
  rw [splitS, if_neg h]
  cases hs : splitS c r with
  | nil => exact absurd hs (splitS_ne c r)
  | cons p ps => rfl
theorem onHead_len (c : UInt8) (l : List Bs) : (onHead c l).length = l.length := by cases l <;> rfl
theorem splitS_pos (c : UInt8) (s : Bs) : 1 ≤ (splitS c s).length := by
  cases h : splitS c s with
  | nil => exact absurd h (splitS_ne c s)
  | cons p ps => simp
theorem splitS_lenC (c : UInt8) : ∀ s : Bs, (splitS c s).length ≤ s.length + 1
  | [] => by simp [splitS]
  | x :: r => by
    have ih := splitS_lenC c r
    by_cases e : x = c
    · rw [splitS, if_pos e]; simp; omega
    · rw [splitS_skip e, onHead_len]; simp; omega
theorem splitK_len (c : UInt8) : ∀ (s : Bs) (k : Nat), (Go.Lib.splitK [c] 0 k s).length = min (k + 1) (splitS c s).length
  | s, 0 => by
    have := splitS_pos c s
    show 1 = _
    omega
  | [], k + 1 => by
    have e : Go.Lib.splitK [c] 0 (k + 1) [] = [[]] := by simp [Go.Lib.splitK, index_nil]
    rw [e, splitS]; simp
  | x :: r, k + 1 => by
    by_cases e : x = c
    · subst e
      rw [splitK_hit, splitS, if_pos rfl, List.length_cons, List.length_cons, splitK_len x r k]; omega
    · rw [splitK_skip e, splitS_skip e, onHead_len, onHead_len, splitK_len c r (k + 1)]
theorem splitK_same (c : UInt8) : ∀ (s : Bs) (k : Nat), (splitS c s).length ≤ k + 1 → Go.Lib.splitK [c] 0 k s = splitS c s
  | [], k, _ => by cases k <;> simp [Go.Lib.splitK, splitS, index_nil]
  | x :: r, k, h => by
    by_cases e : x = c
    · subst e
      rw [splitS, if_pos rfl] at h ⊢
      have := splitS_pos x r
      cases k with
      | zero => rw [List.length_cons] at h; omega
      | succ k => rw [splitK_hit, splitK_same x r k (by simpa using h)]
    · rw [splitS_skip e, onHead_len] at h
      rw [splitS_skip e, splitK_skip e, splitK_same c r k h]
def wrdB (s : ByteArray) : List ByteArray := Go.Lib.splitB ⟨#[32]⟩ 0 (min 4 (s.size + 1) - 1) s
theorem wrdB_map (s : ByteArray) : (wrdB s).map bs = Go.Lib.splitK [32] 0 (min 4 (s.size + 1) - 1) (bs s) := Go.Lib.splitB_data ⟨#[32]⟩ 0 _ s
theorem wrdB_few {s : ByteArray} (h : (splitS 32 (bs s)).length ≤ 3) : (wrdB s).map bs = splitS 32 (bs s) := by
  have h1 := splitS_lenC 32 (bs s)
  have h2 := size_bs s
  rw [wrdB_map, splitK_same _ _ _ (by omega)]
theorem wrdB_many {s : ByteArray} (h : ¬ (splitS 32 (bs s)).length ≤ 3) : (wrdB s).length = 4 := by
  have h1 := splitS_lenC 32 (bs s)
  have h2 := size_bs s
  have := congrArg List.length (wrdB_map s)
  rw [List.length_map, splitK_len] at this
  omega
theorem wrdB_len (s : ByteArray) : (wrdB s).length ≤ min 4 (s.size + 1) := by
  have := Go.Lib.splitB_length_le ⟨#[32]⟩ 0 (min 4 (s.size + 1) - 1) s
  unfold wrdB; omega
theorem splitS_size (c : UInt8) : ∀ (s p : Bs), p ∈ splitS c s → p.length ≤ s.length
  | [], p, h => by rw [splitS, List.mem_singleton] at h; rw [h]; exact Nat.le_refl _
  | x :: r, p, h => by
    have ih := splitS_size c r
    by_cases e : x = c
    · rw [splitS, if_pos e] at h
      rcases List.mem_cons.1 h with h | h
      · rw [h]; exact Nat.zero_le _
      · exact Nat.le_trans (ih p h) (Nat.le_succ _)
    · rw [splitS_skip e] at h
      cases hs : splitS c r with
      | nil => exact absurd hs (splitS_ne c r)
      | cons q t =>
        rw [hs] at h ih
        rcases List.mem_cons.1 h with h | h
        · rw [h, List.length_cons, List.length_cons]; exact Nat.succ_le_succ (ih q (by simp))
        · exact Nat.le_trans (ih p (by simp [h])) (Nat.le_succ _)
theorem SplitW_any (s : ByteArray) (w : World) (hs : s.size ≤ 16777216) (hm : MaxL w) : Calls Tryz.prog 47 #[.string s, .string ⟨#[32]⟩, .int .i64 4] w fun e w' =>
    ∃ A c, e = .returned (.slice A (wrdB s).length c) ∧ (wrdB s).length ≤ c ∧ Sl w' encS 1 A (wrdB s) ∧ Below w.heap.size w w' ∧ (∀ b o, A = some ⟨b, o, none⟩ → w.heap.size ≤ b) := by
  obtain ⟨m, hm⟩ := hm
  refine (Tryz.strings_SplitN s ⟨#[32]⟩ 4 m w (by omega) hm (by decide) (by decide) (by decide)).mono fun e w' ⟨h1, h2⟩ => ?_
  refine ⟨_, _, h1, wrdB_len s, ?_, by rw [h2]; exact (Below.refl _ _).alloc (Nat.le_refl _) _, fun b o e => by injection e with e; injection e with e _ _; omega⟩
  intro _
  refine ⟨w.heap.size, 0, rfl, fun j u hu => ?_⟩
  rw [h2, cell_of_row _ _ _ _ _ (0, 0) (heap_alloc_new w _)]
  rw [Nat.zero_add]
  have e : ∀ l : List ByteArray, flat encS l = l.map Value.string := fun l => by
    unfold flat
    induction l with
    | nil => rfl
    | cons x r ih => rw [List.flatMap_cons, ih]; rfl
  rw [e] at hu
  have hj := (List.getElem?_eq_some_iff.1 hu).1
  unfold wrdB at hu hj
  unfold Go.Lib.cellsOf
  rw [List.getElem?_toArray, List.getElem?_append_left hj]
  exact hu
theorem joinW_join (p : Bs) (r : List Bs) : Go.Lib.join (p :: r) [32] = joinW [32] (p :: r) := by
  induction r generalizing p with
  | nil => rw [Go.Lib.join_one]; rfl
  | cons q t ih =>
    have e : Go.Lib.join (p :: q :: t) [32] = p ++ 32 :: Go.Lib.join (q :: t) [32] := by simp [Go.Lib.join, List.intercalate]
    rw [e, ih q]
    show _ = p ++ [32] ++ joinW [32] (q :: t)
    simp
theorem joinW_lenB (c : Bs) (n : Nat) : ∀ l : List Bs, (∀ x ∈ l, x.length ≤ n) → (joinW c l).length ≤ l.length * (n + c.length)
  | [], _ => by simp [joinW]
  | [p], h => by have := h p (by simp); simp [joinW]; omega
  | p :: q :: t, h => by
    have h1 := h p (by simp)
    have ih := joinW_lenB c n (q :: t) (fun x hx => h x (List.mem_cons_of_mem _ hx))
    show (p ++ c ++ joinW c (q :: t)).length ≤ (t.length + 1 + 1) * (n + c.length)
    rw [List.length_append, List.length_append, Nat.succ_mul]
    rw [List.length_cons] at ih
    omega
theorem JoinW_any (A : Option Addr) (c : Nat) (l : List ByteArray) (w : World) (hs : Sl w encS 1 A l) (hle : l.length ≤ c) (h3 : 1 ≤ l.length ∧ l.length ≤ 40) (hf : ∀ p ∈ l, p.size ≤ 1000) :
    Calls Tryz.prog 112 #[.slice A l.length c, .string ⟨#[32]⟩] w fun e w' => e = .returned (.string (mk (joinW [32] (l.map bs)))) ∧ Below w.heap.size w w' := by
  cases l with
  | nil => simp at h3
  | cons p r =>
    have hz := joinW_lenB [32] 1000 ((p :: r).map bs) (fun x hx => by
      obtain ⟨y, hy, rfl⟩ := List.mem_map.1 hx
      rw [size_bs]; exact hf y hy)
    obtain ⟨b, o, rfl, hc0⟩ := hs.getS (k := 0) (by simp)
    refine (Tryz.strings_Join b o c (p :: r) ⟨#[32]⟩ w (fun j x hx => ?_) (cell_lt hc0) (by have := h3.2; omega) hle ?_).mono fun e w' h => ⟨?_, h.2⟩
    · obtain ⟨hj, rfl⟩ := List.getElem?_eq_some_iff.1 hx
      obtain ⟨b2, o2, e, hc⟩ := hs.getS hj
      injection e with e; injection e with e1 e2
      subst e1 e2; exact hc
    · have e : (Go.Lib.join ((p :: r).map (·.data.toList)) (⟨#[32]⟩ : ByteArray).data.toList).length = (Go.Lib.join (bs p :: r.map bs) [32]).length := rfl
      rw [joinW_join] at e
      rw [List.map_cons] at hz
      rw [List.length_cons, List.length_map] at hz
      have h40 := h3.2
      rw [List.length_cons] at h40
      have h2 := Nat.mul_le_mul_right (1000 + [(32 : UInt8)].length) h40
      have h5 : 40 * (1000 + [(32 : UInt8)].length) = 40040 := rfl
      omega
    · rw [List.map_cons, ← joinW_join]
      exact h.1
end Go.Proofs.YtkglfmgmmnfmbaaGreatDoor
