/- Texts in one: Vc, Lk, S2, Pi. -/
import Derived.Test.YtkglfmgmmnfmbaaDoorGb5
import Derived.Test.YtkglfmgmmnfmbaaDoorWk4
import Derived.Test.YtkglfmgmmnfmbaaDoorGb3
import Derived.Test.YtkglfmgmmnfmbaaDoorGb4
import Derived.Test.YtkglfmgmmnfmbaaDoorGb6
import Derived.Test.YtkglfmgmmnfmbaaDoorPe
import Derived.Test.YtkglfmgmmnfmbaaDoorGb2
import Derived.Test.YtkglfmgmmnfmbaaDoorGb1
import Derived.Test.YtkglfmgmmnfmbaaDoorGa7
/- Words between single spaces, plain; l34Words of the reference, walked. -/
set_option linter.unusedVariables false
namespace Go.Proofs.YtkglfmgmmnfmbaaDoor
open Go.RowKit
def scanG (d : UInt8) (acc : List Bs) (c : UInt8) : List Bs := if c = d then acc ++ [[]] else acc.set (acc.length - 1) (acc.getLastD [] ++ [c])
theorem scanG_cons {d : UInt8} {L : List Bs} (p : Bs) (c : UInt8) (hL : L ≠ []) : scanG d (p :: L) c = p :: scanG d L c := by
  cases L with
  | nil => exact absurd rfl hL
  | cons q r =>
    unfold scanG
    split
    · rfl
    · simp [List.getLastD_eq_getLast?]
theorem splitG_snoc (d c : UInt8) : ∀ a : Bs, splitS d (a ++ [c]) = scanG d (splitS d a) c
  | [] => by
    rw [List.nil_append, splitS, splitS]
    unfold scanG
    split <;> simp [splitS]
  | x :: r => by
    have ih := splitG_snoc d c r
    rw [List.cons_append, splitS, splitS]
    split
    · rw [ih, scanG_cons _ _ (splitS_ne d r)]
    · rw [ih]
      cases hs : splitS d r with
      | nil => exact absurd hs (splitS_ne d r)
      | cons p ps =>
        cases ps with
        | nil =>
          unfold scanG
          by_cases hc : c = d <;> simp [hc]
        | cons q t =>
          have hn : q :: t ≠ [] := by simp
          rw [scanG_cons p c hn]
          show (x :: p) :: scanG d (q :: t) c = scanG d ((x :: p) :: q :: t) c
          rw [scanG_cons (x :: p) c hn]
def wdL (s : Bs) : List Bs := splitS 32 s
def wdB (s : ByteArray) (k : Nat) : List ByteArray := (wdL ((bs s).take k)).map mk
theorem wdB_zero (s : ByteArray) : wdB s 0 = [⟨#[]⟩] := rfl
theorem wdB_step {s : ByteArray} {k : Nat} (h : k < s.size) : wdB s (k + 1) = (scanG 32 (wdL ((bs s).take k)) s[k]).map mk := by
  have h2 : k < (bs s).length := by rw [size_bs]; exact h
  unfold wdB wdL
  rw [← List.take_append_getElem h2, splitG_snoc]; rfl
theorem wdB_space {s : ByteArray} {k : Nat} (h : k < s.size) (hc : s[k] = 32) : wdB s (k + 1) = wdB s k ++ [⟨#[]⟩] := by
  rw [wdB_step h, hc]; unfold scanG wdB; rw [if_pos rfl, List.map_append]; rfl
theorem wdB_char {s : ByteArray} {k : Nat} (h : k < s.size) (hc : s[k] ≠ 32) (y : ByteArray) (hy : (wdB s k)[(wdB s k).length - 1]? = some y) : wdB s (k + 1) = (wdB s k).set ((wdB s k).length - 1) (y ++ s.extract k (k + 1)) := by
  rw [wdB_step h]; unfold scanG; rw [if_neg hc, List.map_set]
  unfold wdB at hy ⊢
  rw [List.length_map] at hy ⊢
  rw [List.getElem?_map, Option.map_eq_some_iff] at hy
  obtain ⟨z, hz, rfl⟩ := hy
  have e : (wdL ((bs s).take k)).getLastD [] = z := by rw [List.getLastD_eq_getLast?, List.getLast?_eq_getElem?, hz]; rfl
  rw [e, ← mk_append]
  congr 2
  apply ByteArray.ext
  apply Array.ext'
  simp [mk, ByteArray.data_extract]
  rw [List.drop_eq_getElem_cons (by rw [size_bs]; exact h)]; rfl
theorem wdB_len (s : ByteArray) : ∀ k, k ≤ s.size → 1 ≤ (wdB s k).length ∧ (wdB s k).length ≤ k + 1 ∧ ∀ y ∈ wdB s k, y.size ≤ k
  | 0, _ => ⟨Nat.le_refl _, Nat.le_refl _, fun y h => by rw [wdB_zero, List.mem_singleton] at h; subst h; simp [ByteArray.size]⟩
  | k + 1, h => by
    obtain ⟨h0, h1, h2⟩ := wdB_len s k (by omega)
    by_cases hc : s[k] = 32
    · rw [wdB_space (by omega) hc]
      refine ⟨by simp, by simp; omega, fun y hy => ?_⟩
      rcases List.mem_append.1 hy with h | h
      · have := h2 y h; omega
      · simp at h; subst h; simp [ByteArray.size]
    · have hlt : (wdB s k).length - 1 < (wdB s k).length := by omega
      rw [wdB_char (by omega) hc _ (List.getElem?_eq_getElem hlt)]
      refine ⟨by rw [List.length_set]; omega, by rw [List.length_set]; omega, fun y hy => ?_⟩
      rcases List.mem_or_eq_of_mem_set hy with h | h
      · have := h2 y h; omega
      · subst h
        have h3 := h2 _ (List.getElem_mem hlt)
        rw [ByteArray.size_append, ByteArray.size_extract]
        omega
theorem wdB_all (s : ByteArray) : wdB s s.size = (splitS 32 (bs s)).map mk := by
  unfold wdB wdL; rw [List.take_of_length_le (by rw [size_bs]; omega)]
set_option maxHeartbeats 4000000 in
set_option maxRecDepth 100000 in
theorem sl34Words_any (s : ByteArray) (w : World) (hs : s.size ≤ 1048576) : Calls Tryd.prog 58 #[.string s] w (OwnRes 9 1 encS ((splitS 32 (bs s)).map mk) w) := by
  have HO0 := Lib.hid (Own.made (w := w) (enc := encS) (E := 9) (size := 1) (Nat.le_refl w.heap.size))
  rw [← wdB_all]
  go_enter Tryd.func58, Tryd.ntmps58
  go_wp2_with fail
  go_loopw [3, 4] (fun v i wr => ∃ (k : Nat), k ≤ s.size ∧ i = .int .i64 k ∧ Hid (Own wr w.heap.size 9 1 encS v (wdB s k)) ∧ Hid (Below w.heap.size w wr)) (fun _ i _ => s.size - (intOf i).toNat)
  case atStart => exact ⟨0, Nat.zero_le _, rfl, own_lit (enc := encS) (l := [⟨#[]⟩]) (fun _ => rfl) (heap_alloc_new w _) (Nat.le_refl _) (by unfold maxLen; simp), (Below.refl _ _).alloc (Nat.le_refl _) _⟩
  case round =>
    obtain ⟨k, hk, rfl, HO, HBW⟩ := hrel
    obtain ⟨hL0, hL1, hL2⟩ := wdB_len s k hk
    by_cases hlt : k < s.size
    · have hin : (k : Int) < (s.size : Int) := by omega
      by_cases hc : s[k] = 32
      · have HN := Lib.hid (wdB_space hlt hc)
        have hcn : ((s[k].toNat : Nat) : Int) = 32 := by rw [hc]; rfl
        have HL := Lib.hid (show (wdB s k).length ≤ 16777216 by omega)
        clear hL2 hc hL1
        generalize wdB s k = ls at *
        go_wp2_with (at_builtin; refine app_str (w0 := w) (y := ⟨#[]⟩) rfl rfl (by rfl) (by rfl) HO.out HBW.out HL.out ?_; intro v6 w6 hown6 hb6; have HO6 := Lib.hid hown6; have HB6 := Lib.hid hb6; clear hown6 hb6)
        go_roundw
        case rel => exact ⟨k + 1, by omega, by go_num, by rw [HN.out]; exact HO6.out, HB6.out⟩
        case measure => simp [intOf]; omega
      · have hcn : ¬ ((s[k].toNat : Nat) : Int) = 32 := fun e => hc (UInt8.toNat_inj.1 (show s[k].toNat = 32 by omega))
        have hll : (wdB s k).length - 1 < (wdB s k).length := by omega
        have HN := Lib.hid (wdB_char hlt hc _ (List.getElem?_eq_getElem hll))
        have hys := hL2 _ (List.getElem_mem hll)
        clear hL2 hc
        generalize wdB s k = ls at *
        have hp1 : (1 : Int) ≤ (ls.length : Int) := by omega
        have hp2 : 0 < ls.length := by omega
        have hp3 : (0 : Int) < (ls.length : Int) := by omega
        obtain ⟨g, cap, rfl, hg, hcap, _, _⟩ := HO.out.row hp2
        obtain ⟨b3, o3, e, hc0⟩ := HO.out.sl'.getS hll
        injection e with e; injection e with e1 e2
        subst e1 e2
        simp only [Nat.zero_add] at hc0
        have hfz := HO.out.free' (ls.length - 1)
        have hxs : (s.extract k (k + 1)).size ≤ 1 := by rw [ByteArray.size_extract]; omega
        have hq := str_add (x := ls[ls.length - 1]) (y := s.extract k (k + 1)) (by omega) (by omega)
        have hset := HO.out.setEl (fun _ => rfl) (by omega) (i := ls.length - 1) (by omega) (ls[ls.length - 1] ++ s.extract k (k + 1))
        rw [← HN.out] at hset
        have hse : setAll wr g ((ls.length - 1) * 1) (encS (ls[ls.length - 1] ++ s.extract k (k + 1))) = wr.setCell ⟨g, ls.length - 1, none⟩ (.string (ls[ls.length - 1] ++ s.extract k (k + 1))) := by rw [Nat.mul_one]; rfl
        rw [hse] at hset
        have HSET := Lib.hid hset
        have HB6 := Lib.hid (HBW.out.setCell (p := ⟨g, ls.length - 1, none⟩) hg (.string (ls[ls.length - 1] ++ s.extract k (k + 1))))
        clear hset hse HN
        generalize ls[ls.length - 1] = y at *
        go_wp2_with fail
        go_region
        all_goals
          go_wp2
          go_roundw
          case rel => exact ⟨k + 1, by omega, by go_num, by first | exact HSET.out | exact HSET.out.drew, by first | exact HB6.out | exact HB6.out.drew⟩
          case measure => simp [intOf]; omega
    · obtain rfl : k = s.size := by omega
      go_wp2
      go_ret
      exact ⟨_, rfl, HO.out, HBW.out⟩
end Go.Proofs.YtkglfmgmmnfmbaaDoor

/- What a line of an archive leans on: its words, the boxes that the reference keeps. Written by gen_al.py. -/
set_option linter.unusedVariables false
namespace Go.Proofs.YtkglfmgmmnfmbaaDoor
open Go.RowKit
theorem lit_tx (y : ByteArray) (L : List UInt8) : (y.toList == L) = (tx y == L) := by rw [ByteArray.toList_eq]
theorem words6 (y : ByteArray) : (tx y = wWrite ∧ (y.toList == [119, 114, 105, 116, 101]) = true ∧ (y.toList == [100, 114, 111, 112]) = false ∧ (y.toList == [107, 101, 101, 112]) = false ∧ (y.toList == [98, 97, 99, 107]) = false ∧ (y.toList == [114, 101, 97, 100]) = false) ∨ (tx y = wDrop ∧ (y.toList == [119, 114, 105, 116, 101]) = false ∧ (y.toList == [100, 114, 111, 112]) = true ∧ (y.toList == [107, 101, 101, 112]) = false ∧ (y.toList == [98, 97, 99, 107]) = false ∧ (y.toList == [114, 101, 97, 100]) = false) ∨ (tx y = wKeep ∧ (y.toList == [119, 114, 105, 116, 101]) = false ∧ (y.toList == [100, 114, 111, 112]) = false ∧ (y.toList == [107, 101, 101, 112]) = true ∧ (y.toList == [98, 97, 99, 107]) = false ∧ (y.toList == [114, 101, 97, 100]) = false) ∨ (tx y = wBack ∧ (y.toList == [119, 114, 105, 116, 101]) = false ∧ (y.toList == [100, 114, 111, 112]) = false ∧ (y.toList == [107, 101, 101, 112]) = false ∧ (y.toList == [98, 97, 99, 107]) = true ∧ (y.toList == [114, 101, 97, 100]) = false) ∨ (tx y = wRead ∧ (y.toList == [119, 114, 105, 116, 101]) = false ∧ (y.toList == [100, 114, 111, 112]) = false ∧ (y.toList == [107, 101, 101, 112]) = false ∧ (y.toList == [98, 97, 99, 107]) = false ∧ (y.toList == [114, 101, 97, 100]) = true) ∨ (tx y ≠ wWrite ∧ tx y ≠ wDrop ∧ tx y ≠ wKeep ∧ tx y ≠ wBack ∧ tx y ≠ wRead ∧ (y.toList == [119, 114, 105, 116, 101]) = false ∧ (y.toList == [100, 114, 111, 112]) = false ∧ (y.toList == [107, 101, 101, 112]) = false ∧ (y.toList == [98, 97, 99, 107]) = false ∧ (y.toList == [114, 101, 97, 100]) = false) := by
  simp only [lit_tx]
  by_cases hWrite : tx y = wWrite
  · left; rw [hWrite]; exact ⟨rfl, by decide, by decide, by decide, by decide, by decide⟩
  by_cases hDrop : tx y = wDrop
  · right; left; rw [hDrop]; exact ⟨rfl, by decide, by decide, by decide, by decide, by decide⟩
  by_cases hKeep : tx y = wKeep
  · right; right; left; rw [hKeep]; exact ⟨rfl, by decide, by decide, by decide, by decide, by decide⟩
  by_cases hBack : tx y = wBack
  · right; right; right; left; rw [hBack]; exact ⟨rfl, by decide, by decide, by decide, by decide, by decide⟩
  by_cases hRead : tx y = wRead
  · right; right; right; right; left; rw [hRead]; exact ⟨rfl, by decide, by decide, by decide, by decide, by decide⟩
  right; right; right; right; right
  exact ⟨hWrite, hDrop, hKeep, hBack, hRead, beq_eq_false_iff_ne.2 hWrite, beq_eq_false_iff_ne.2 hDrop, beq_eq_false_iff_ne.2 hKeep, beq_eq_false_iff_ne.2 hBack, beq_eq_false_iff_ne.2 hRead⟩
theorem split_one : ∀ {s p : Bs} {c : UInt8}, splitS c s = [p] → s = p
  | [], p, c, h => by rw [splitS] at h; injection h
  | x :: r, p, c, h => by
    rw [splitS] at h
    split at h
    · injection h with _ h; exact absurd h (splitS_ne c r)
    · cases hs : splitS c r with
      | nil => exact absurd hs (splitS_ne c r)
      | cons q t =>
        rw [hs] at h
        injection h with h1 h2
        subst h2
        rw [← h1, split_one hs]
theorem lineA_write {a : Ar} {y p c : Bs} (h : y = wWrite) : lineA a [y, p, c] = match writeA a.ps a.op p c with | (s, r, true) => (⟨s, r, a.vs⟩, wOk) | _ => (a, wNo) := by
  show (if y = wWrite then _ else _) = _
  rw [if_pos h]; rfl
theorem lineA_three {a : Ar} {y p c : Bs} (h : y ≠ wWrite) : lineA a [y, p, c] = (a, wNo) := by
  show (if y = wWrite then _ else _) = _
  rw [if_neg h]
theorem lineA_drop {a : Ar} {y p : Bs} (h : y = wDrop) : lineA a [y, p] = match dropA a.ps a.op p with | (s, r, true) => (⟨s, r, a.vs⟩, wOk) | _ => (a, wNo) := by
  show (if y = wDrop then _ else _) = _
  rw [if_pos h]; rfl
theorem lineA_keep {a : Ar} {y p : Bs} (h : y = wKeep) : lineA a [y, p] = match addV a.vs (a.op, (a.vs.length : Int) - 1, mk p) with | (v, true) => (⟨a.ps, a.op, v⟩, wOk) | _ => (a, wNo) := by
  subst h; rfl
theorem lineA_back {a : Ar} {y p : Bs} (h : y = wBack) : lineA a [y, p] = if 0 ≤ readH p ∧ readH p < a.vs.length then (⟨a.ps, ((a.vs.getD (readH p).toNat (0, 0, ⟨#[]⟩)).1), a.vs⟩, wOk) else (a, wNo) := by
  subst h; rfl
theorem lineA_read {a : Ar} {y p : Bs} (h : y = wRead) : lineA a [y, p] = match readAt a.ps a.op p with | some t => (a, 61 :: t) | none => (a, wNo) := by
  subst h; rfl
theorem lineA_two {a : Ar} {y p : Bs} (h1 : y ≠ wDrop) (h2 : y ≠ wKeep) (h3 : y ≠ wBack) (h4 : y ≠ wRead) : lineA a [y, p] = (a, wNo) := by
  show (if y = wDrop then _ else if y = wKeep then _ else if y = wBack then _ else if y = wRead then _ else _) = _
  rw [if_neg h1, if_neg h2, if_neg h3, if_neg h4]
theorem lineA_files {a : Ar} {y : Bs} (h : y = wFiles) : lineA a [y] = (a, filesAns a) := by
  show (if y = wFiles then _ else _) = _
  rw [if_pos h]
theorem lineA_one {a : Ar} {y : Bs} (h : y ≠ wFiles) : lineA a [y] = (a, wNo) := by
  show (if y = wFiles then _ else _) = _
  rw [if_neg h]
theorem lineA_many {a : Ar} {y p q r : Bs} {t : List Bs} : lineA a (y :: p :: q :: r :: t) = (a, wNo) := rfl
theorem joinW_snoc (c : Bs) : ∀ (l : List Bs) (p : Bs), l ≠ [] → joinW c (l ++ [p]) = joinW c l ++ c ++ p
  | [], _, h => absurd rfl h
  | [q], p, _ => by simp [joinW]
  | q :: r :: t, p, _ => by
    have ih := joinW_snoc c (r :: t) p (by simp)
    show q ++ c ++ joinW c ((r :: t) ++ [p]) = (q ++ c ++ joinW c (r :: t)) ++ c ++ p
    rw [ih]; simp
theorem joinW_len (c : Bs) (n : Nat) : ∀ l : List Bs, (∀ x ∈ l, x.length ≤ n) → (joinW c l).length ≤ l.length * (n + c.length)
  | [], _ => by simp [joinW]
  | [p], h => by have := h p (by simp); simp [joinW]; omega
  | p :: q :: t, h => by
    have h1 := h p (by simp)
    have ih := joinW_len c n (q :: t) (fun x hx => h x (List.mem_cons_of_mem _ hx))
    show (p ++ c ++ joinW c (q :: t)).length ≤ (t.length + 1 + 1) * (n + c.length)
    rw [List.length_append, List.length_append, Nat.succ_mul]
    rw [List.length_cons] at ih
    omega
/-! ### an archive and an answer -/
def AlRes (r : Ar × Bs) (w : World) (e : Ending) (w' : World) : Prop := ∃ v, e = .returned (.tuple #[v, .string (mk r.2)]) ∧ ArV w' w.heap.size r.1 v ∧ Below w.heap.size w w'
theorem AlRes.mk_ {R : Ar × Bs} {a : Ar} {ans : Bs} {s : ByteArray} {v : Value} {w w' : World} (h : R = (a, ans)) (hs : s = mk ans) (hv : ArV w' w.heap.size a v ∧ Below w.heap.size w w') : AlRes R w (.returned (.tuple #[v, .string s])) w' := by
  subst h hs; exact ⟨v, rfl, hv.1, hv.2⟩
theorem ar_end {w W : World} {P Q : Value} {l : List Pc} {m : List Vr} {r : Int} (hb : Below w.heap.size w W) (hp : Own W (w.heap.size + 2) 57 2 encP P l) (hq : Own W (w.heap.size + 2) 45 3 encV Q m) (ha : ApartV P Q) :
    ArV (((W.setCell ⟨w.heap.size + 1, 0, none⟩ P).setCell ⟨w.heap.size + 1, 1, none⟩ (.int .i64 r)).setCell ⟨w.heap.size + 1, 2, none⟩ Q) w.heap.size ⟨l, r, m⟩ (.agg #[P, .int .i64 r, Q]) ∧ Below w.heap.size w (((W.setCell ⟨w.heap.size + 1, 0, none⟩ P).setCell ⟨w.heap.size + 1, 1, none⟩ (.int .i64 r)).setCell ⟨w.heap.size + 1, 2, none⟩ Q) :=
  ⟨⟨P, Q, rfl, (((hp.setBelow (by simp) _).setBelow (by simp) _).setBelow (by simp) _).mono (by omega), (((hq.setBelow (by simp) _).setBelow (by simp) _).setBelow (by simp) _).mono (by omega), ha⟩, ((hb.setCell (by simp) _).setCell (by simp) _).setCell (by simp) _⟩
theorem Own.setOther {α : Type} {enc : α → List Value} {w : World} {base size : Nat} {E : TypeId} {v : Value} {l : List α} (h : Own w base E size enc v l) {b i : Nat} (hb : v.ownBlock ≠ some b) (u : Value) : Own (w.setCell ⟨b, i, none⟩ u) base E size enc v l :=
  h.apartW ((Only.refl b w).setCell rfl u) fun q hq e => hb (e ▸ hq)
structure AlS (w : World) (vA vB : Value) (x : Int) (bs bo : Nat) (SP SQ OP OQ : Value) (l : List Pc) (m : List Vr) (W : World) : Prop where
  bel : Below w.heap.size w W
  r0 : Row3 W w.heap.size vA (.int .i64 x) vB
  r1 : Row3 W (w.heap.size + 1) (.slice none 0 0) (.int .i64 0) (.slice none 0 0)
  r2 : Row3 W bs SP (.int .i64 x) SQ
  sp : Own W (w.heap.size + 2) 57 2 encP SP l
  sq : Own W (w.heap.size + 2) 45 3 encV SQ m
  op : Own W (w.heap.size + 2) 57 2 encP OP l
  oq : Own W (w.heap.size + 2) 45 3 encV OQ m
  aps : ApartV SP SQ
  apo : ApartV OP OQ
  lo : w.heap.size + 2 ≤ bs
  lt : bs < bo
  nsp : SP.ownBlock ≠ some bo
  nsq : SQ.ownBlock ≠ some bo
  nop : OP.ownBlock ≠ some bo
  noq : OQ.ownBlock ≠ some bo
section
variable {w : World} {vA vB : Value} {x : Int} {bs bo : Nat} {SP SQ OP OQ : Value} {l : List Pc} {m : List Vr} {W W' : World}
theorem AlS.below (h : AlS w vA vB x bs bo SP SQ OP OQ l m W) (hb : Below W.heap.size W W') : AlS w vA vB x bs bo SP SQ OP OQ l m W' :=
  { h with bel := Below_then h.bel hb (Nat.le_refl _), r0 := h.r0.below hb, r1 := h.r1.below hb, r2 := h.r2.below hb, sp := h.sp.below hb, sq := h.sq.below hb, op := h.op.below hb, oq := h.oq.below hb }
theorem AlS.set (h : AlS w vA vB x bs bo SP SQ OP OQ l m W) (i : Nat) (u : Value) : AlS w vA vB x bs bo SP SQ OP OQ l m (W.setCell ⟨bo, i, none⟩ u) := by
  have h1 := h.lo
  have h2 := h.lt
  exact { h with
    bel := h.bel.setCell (by show w.heap.size ≤ bo; omega) u
    r0 := h.r0.other (by show bo ≠ w.heap.size; omega) u
    r1 := h.r1.other (by show bo ≠ w.heap.size + 1; omega) u
    r2 := h.r2.other (by show bo ≠ bs; omega) u
    sp := h.sp.setOther h.nsp u
    sq := h.sq.setOther h.nsq u
    op := h.op.setOther h.nop u
    oq := h.oq.setOther h.noq u }
theorem AlS.drew (h : AlS w vA vB x bs bo SP SQ OP OQ l m W) : AlS w vA vB x bs bo SP SQ OP OQ l m W.drew := h.below (Below_drewN (Below.refl _ _) 1)
end
end Go.Proofs.YtkglfmgmmnfmbaaDoor

/- Dropping out of a folder, the reference's: l10Drop. Written by gen_drop.py. -/
set_option linter.unusedVariables false
namespace Go.Proofs.YtkglfmgmmnfmbaaDoor
open Go.RowKit
def D10 (A : Option Addr) (c : Nat) (l : List Pc) (p : Int) (PA : Option Addr) (pc : Nat) (pl : List ByteArray) (w : World) : Prop :=
  (walkP l p (pl.map tx)).isSome = true → Sl w encP 2 A l → Sl w encS 1 PA pl → pl.length ≤ pc → (∀ x ∈ pl, x.size ≤ 8) →
    Calls Tryd.prog 82 #[.slice A l.length c, .int .i64 p, .slice PA pl.length pc] w (SetRes (dropS l (foldsD l p (pl.map tx)) (pl.map tx)) w)
theorem dropS_first {l : List Pc} {p : Int} {pl : List ByteArray} (h : 0 < pl.length) (hw : (walkP l p (pl.map tx)).isSome = true) :
    ∃ ll q, folderOf l p = some ll ∧ getE ll (tx pl[0]) = some q ∧ (walkP l q ((pl.drop 1).map tx)).isSome = true ∧
      dropS l (foldsD l p (pl.map tx)) (pl.map tx) = (dropS l (foldsD l q ((pl.drop 1).map tx)) ((pl.drop 1).map tx)).bind (dropUp ll (tx pl[0])) := by
  cases pl with
  | nil => simp at h
  | cons x r =>
    rw [List.map_cons, walkP] at hw
    cases hf : folderOf l p with
    | none => rw [hf] at hw; cases hw
    | some ll =>
      rw [hf, Option.bind_some] at hw
      cases hg : getE ll (tx x) with
      | none => rw [hg] at hw; cases hw
      | some q =>
        rw [hg, Option.bind_some] at hw
        refine ⟨ll, q, rfl, hg, hw, ?_⟩
        rw [List.map_cons, foldsD, hf, Option.getD_some, hg, Option.getD_some, dropS_cons]; rfl
set_option maxHeartbeats 16000000 in
set_option maxRecDepth 100000 in
theorem sl10d_step (A : Option Addr) (c : Nat) (l : List Pc) (hcz : A = none → c = 0) (hle : l.length ≤ c) (hv : storeV l = true) (pl : List ByteArray) (hpos : 0 < pl.length)
    (ih : 1 < pl.length → ∀ (p : Int) (PA : Option Addr) (pc : Nat) (w : World), D10 A c l p PA pc (pl.drop 1) w) (p : Int) (PA : Option Addr) (pc : Nat) (w : World) : D10 A c l p PA pc pl w := by
  intro hw hs hps hple hsz
  have HS := Lib.hid hs
  obtain ⟨b, o, rfl, hc0⟩ := hps.getS hpos
  have HPS := Lib.hid hps
  have HSZ := Lib.hid hsz
  have IH := Lib.hid ih
  have HV := Lib.hid hv
  have hlen : l.length ≤ 16777216 := by have := storeV_len hv; omega
  obtain ⟨ll, q, hfo, hge, hwr, hR⟩ := dropS_first hpos hw
  have HNM := Lib.hid (show pl[0].size ≤ 16777216 from Nat.le_trans (hsz _ (List.getElem_mem hpos)) (by omega))
  rw [Nat.add_zero] at hc0
  have HLV := Lib.hid (folder_valid hfo)
  have htz := getT_size HV.out (p := p)
  have hRD := fun w => sReadFolder_any ((getT l p).getD ⟨#[]⟩) w htz
  have hFT := folT_of (l := l) (p := p)
  have hSome := folT_some (l := l) (p := p)
  unfold RfRes at hRD
  unfold folT at hFT
  rw [hFT, hSome, hfo, Option.getD_some, Option.isSome_some] at hRD
  have HGP := Lib.hid (fun w h => sl4Get_any A c l p w h hlen)
  have hq0 : 0 ≤ q := getE_pos HLV.out hge
  have HWR := Lib.hid hwr
  clear hs hps hsz ih hv hw hwr
  generalize pl[0] = nm at *
  generalize dropS l (foldsD l p (pl.map tx)) (pl.map tx) = R at *
  have HR := Lib.hid hR
  have HGE := Lib.hid hge
  generalize (getT l p).getD ⟨#[]⟩ = TT at *
  generalize (getT l p).isSome = okg at *
  have HRD := Lib.hid hRD
  clear hRD hFT hSome htz hR hge hfo
  go_enter Tryd.func82, Tryd.ntmps82
  go_wp2_with (go_at_call 20; refine (HGP.out _ HS.out).mono ?_; rintro e w' ⟨rfl, rfl⟩)
  refine (HRD.out _).mono ?_
  rintro e wA ⟨v, rfl, hown, hb⟩
  have HB := Lib.hid hb
  have hcA := Below_cells HB.out _ _ _ hc0
  obtain ⟨LA, lc, rfl, hle4, hs4, hA4⟩ := hown.sl
  have HLC := Lib.hid hown.cz
  have HLL := Lib.hid hs4
  have HLE := Lib.hid hle4
  have HLA := Lib.hid (show LA = none ∨ ∃ b o, LA = some ⟨b, o, none⟩ by
    rcases hA4 with ⟨_, rfl⟩ | ⟨g, rfl, _⟩
    · exact .inl rfl
    · exact .inr ⟨_, _, rfl⟩)
  clear hown hb hs4 hle4 hA4
  have hlv := HLV.out
  have hl3 := entsV_len hlv
  have hso := entsV_sorted hlv
  go_wp2_with fail
  go_loopw [13, 14] (fun vc vi wr => ∃ (k : Nat), k ≤ ll.length ∧ vc = .int .i64 (chE ll (tx nm) k) ∧ vi = .int .i64 k ∧ Hid (Below wA.heap.size wA wr)) (fun _ vi _ => ll.length - (intOf vi).toNat)
  case atStart => exact ⟨0, Nat.zero_le _, rfl, rfl, Below.refl _ _⟩
  case round =>
    obtain ⟨k, hk, rfl, rfl, HBJ⟩ := hrel
    have HBX := Lib.hid (Below_then HB.out HBJ.out (Nat.le_refl _))
    have HLX := Lib.hid (HLL.out.below HBJ.out)
    have hd := Below_cells HBJ.out _ _ _ hcA
    have hpl1 : (0 : Int) < (pl.length : Int) := by omega
    by_cases hlt : k < ll.length
    · obtain ⟨b2, o2, hLA, hy0, hy1⟩ := HLX.out.getE hlt
      subst hLA
      have hlt' : (k : Int) < (ll.length : Int) := by omega
      cases heq : (ll[k].1.toList == nm.toList)
      · have HN := Lib.hid (chE_no (n := tx nm) hlt (by rw [eq_tlx] at heq; exact beq_eq_false_iff_ne.1 heq))
        generalize chE ll (tx nm) k = C0 at *
        generalize ll[k] = y at *
        obtain ⟨t, p2⟩ := y
        simp only at *
        go_wp2_with fail
        go_quiet (fail)
        all_goals
          go_wp2
          go_roundw
          case rel => exact ⟨k + 1, by omega, by rw [HN.out], by go_num, Below_drewN HBJ.out _⟩
          case measure => simp [intOf]; omega
      · have HN := Lib.hid (chE_yes (n := tx nm) hlt (by rw [eq_tlx] at heq; exact beq_iff_eq.1 heq))
        generalize chE ll (tx nm) k = C0 at *
        generalize ll[k] = y at *
        obtain ⟨t, p2⟩ := y
        simp only at *
        go_wp2_with fail
        go_quiet (fail)
        all_goals
          go_wp2
          go_roundw
          case rel => exact ⟨k + 1, by omega, by rw [HN.out], by go_num, Below_drewN HBJ.out _⟩
          case measure => simp [intOf]; omega
    · have hlt' : ¬ (k : Int) < (ll.length : Int) := by omega
      rw [chE_all (n := tx nm) hso (k := k) (by omega), HGE.out]
      simp only [Option.getD_some]
      have hqn : ¬ q < 0 := by omega
      by_cases h1 : pl.length = 1
      · have h1' : ¬ (1 : Int) < (pl.length : Int) := by omega
        have hrest : (pl.drop 1).map tx = [] := by rw [List.drop_of_length_le (by omega)]; rfl
        have HDU := Lib.hid (show R = dropUp ll (tx nm) (l, -1) by rw [HR.out, hrest]; rfl)
        have hm : (-1 : Int) < 0 := by omega
        have HVX := HV
        have hlx := storeV_len HVX.out
        have hczB := hcz
        have hleB := hle
        have HSB := Lib.hid (HS.out.below HBX.out)
        clear HR HGP hrest
        have hDE := fun w h => sDropEntry_any LA lc ll nm w h HLV.out
        unfold EnRes at hDE
        rw [show bs nm = tx nm from rfl] at hDE
        have hvd := dropE_valid HLV.out (tx nm)
        have HRL := Lib.hid (show R = if (dropE ll (tx nm)).1 = [] then some (l, -1) else if (putT l (mk (foldT (dropE ll (tx nm)).1))).2.2 then some ((putT l (mk (foldT (dropE ll (tx nm)).1))).1, prOf (foldT (dropE ll (tx nm)).1)) else none by
          rw [HDU.out]; unfold dropUp; simp only [if_pos hm]; rfl)
        generalize dropE ll (tx nm) = DE at *
        obtain ⟨rl, ok3⟩ := DE
        simp only at hDE hvd HRL
        have HDE := Lib.hid hDE
        clear hDE HDU
        go_wp2_with fail
        refine (HDE.out _ HLX.out).mono ?_
        rintro e w6 ⟨v6, rfl, hown6, hb6⟩
        have HB6 := Lib.hid (Below_then HBX.out hb6 (Nat.le_refl _))
        have HSB6 := Lib.hid (HSB.out.below hb6)
        obtain ⟨X, dx, rfl, hlex, hsx, _⟩ := hown6.sl
        have HX6 := Lib.hid hsx
        have hvr := hvd
        clear hb6 hown6 hsx hvd
        have hp3 := entsV_len hvr
        by_cases hrl : rl = []
        · have HRY := Lib.hid (show R = some (l, -1) by rw [HRL.out, if_pos hrl])
          have hz : rl.length = 0 := by rw [hrl]; rfl
          have hz' : (rl.length : Int) = 0 := by omega
          clear hrl HRL
          go_wp2
          go_ret3
          exact SetRes.yes HRY.out HB6.out HSB6.out hczB hleB
        · have hz' : ¬ (rl.length : Int) = 0 := by
            intro e
            exact hrl (List.length_eq_zero_iff.1 (by omega))
          have HRY := Lib.hid (show R = if (putT l (mk (foldT rl))).2.2 then some ((putT l (mk (foldT rl))).1, prOf (tx (mk (foldT rl)))) else none by rw [HRL.out, if_neg hrl]; rfl)
          have hFT := fun w h => sFolderText_any X dx rl w h (by omega) (fitE_valid hvr)
          have hfl := foldT_len rl
          have hPT := fun w h => sPutText_any A c l (mk (foldT rl)) w h hczB hleB (by omega) (fit_store HVX.out) (by rw [mk_size]; omega)
          unfold PutRes at hPT
          have hSP := fun w1 w2 v => @SetRes.put R l (mk (foldT rl)) w w1 w2 v HRY.out
          clear HRY HRL hvr hfl hrl
          generalize mk (foldT rl) = FT at *
          generalize putT l FT = PT at *
          obtain ⟨P1, P2, P3⟩ := PT
          simp only at hPT hSP
          have HSP := Lib.hid hSP
          have HFT := Lib.hid hFT
          have HPT := Lib.hid hPT
          clear hFT hPT hSP
          go_wp2_with fail
          refine (HFT.out _ HX6.out).mono ?_
          rintro e w7 ⟨rfl, hb7⟩
          replace HB6 := Lib.hid (Below_then HB6.out hb7 (Nat.le_refl _))
          replace HSB6 := Lib.hid (HSB6.out.below hb7)
          clear hb7
          go_wp2_with fail
          refine (HPT.out _ HSB6.out).mono ?_
          rintro e w8 ⟨v8, rfl, hown8, hb8⟩
          have HO8 := Lib.hid hown8
          have HB8 := Lib.hid hb8
          clear hown8 hb8
          go_wp2
          go_ret3
          exact HSP.out _ _ _ HO8.out HB6.out HB8.out
      · have h1' : (1 : Int) < (pl.length : Int) := by omega
        have hpc1 : ¬ pc = 1 := by omega
        have hREC : ∀ w, Sl w encP 2 A l → Sl w encS 1 (some ⟨b, o, none⟩) pl → Calls Tryd.prog 82 #[.slice A l.length c, .int .i64 q, .slice (some ⟨b, o + 1, none⟩) (pl.length - 1) (pc - 1)] w (SetRes (dropS l (foldsD l q ((pl.drop 1).map tx)) ((pl.drop 1).map tx)) w) := fun w h1 h2 => by
          have h := IH.out (by omega) q (some ⟨b, o + 1, none⟩) (pc - 1) w HWR.out h1 h2.dropS (by rw [List.length_drop]; omega) (fun x hx => HSZ.out x (List.mem_of_mem_drop hx))
          rw [List.length_drop] at h
          exact h
        have HS0 := Lib.hid (fun x h => @dropS_valid l (foldsD l q ((pl.drop 1).map tx)) ((pl.drop 1).map tx) x HV.out h)
        generalize dropS l (foldsD l q ((pl.drop 1).map tx)) ((pl.drop 1).map tx) = S at *
        have HREC := Lib.hid hREC
        clear hREC HGP
        go_wp2_with fail
        refine (HREC.out _ (HS.out.below HBX.out) (HPS.out.below HBX.out)).mono ?_
        rintro e w5 ⟨v5, m5, rfl, hb5, hres⟩
        replace HBX := Lib.hid (Below_then HBX.out hb5 (Nat.le_refl _))
        replace HLX := Lib.hid (HLX.out.below hb5)
        replace hd := Below_cells hb5 _ _ _ hd
        clear hb5
        cases S with
        | none =>
          have HRN := Lib.hid (show R = none from HR.out)
          clear HR
          simp only [Option.isSome_none]
          go_wp2
          go_ret3
          exact SetRes.no HRN.out HBX.out
        | some x =>
          obtain ⟨rfl, B, d, rfl, hsB, hczB, hleB⟩ := hres x rfl
          have HSB := Lib.hid hsB
          have HVX := Lib.hid (HS0.out x rfl)
          obtain ⟨xs, m⟩ := x
          have HDU := Lib.hid (show R = dropUp ll (tx nm) (xs, m) from HR.out)
          simp only at HVX HSB hczB hleB
          have hlx := storeV_len HVX.out
          clear HR hres hsB HS0
          simp only [Option.isSome_some]
          by_cases hm : m < 0
          · have hm2 : ¬ 0 ≤ m := by omega
            have hDE := fun w h => sDropEntry_any LA lc ll nm w h HLV.out
            unfold EnRes at hDE
            rw [show bs nm = tx nm from rfl] at hDE
            have hvd := dropE_valid HLV.out (tx nm)
            have HRL := Lib.hid (show R = if (dropE ll (tx nm)).1 = [] then some (xs, -1) else if (putT xs (mk (foldT (dropE ll (tx nm)).1))).2.2 then some ((putT xs (mk (foldT (dropE ll (tx nm)).1))).1, prOf (foldT (dropE ll (tx nm)).1)) else none by
              rw [HDU.out]; unfold dropUp; simp only [if_pos hm]; rfl)
            generalize dropE ll (tx nm) = DE at *
            obtain ⟨rl, ok3⟩ := DE
            simp only at hDE hvd HRL
            have HDE := Lib.hid hDE
            clear hDE HDU
            go_wp2_with fail
            refine (HDE.out _ HLX.out).mono ?_
            rintro e w6 ⟨v6, rfl, hown6, hb6⟩
            have HB6 := Lib.hid (Below_then HBX.out hb6 (Nat.le_refl _))
            have HSB6 := Lib.hid (HSB.out.below hb6)
            obtain ⟨X, dx, rfl, hlex, hsx, _⟩ := hown6.sl
            have HX6 := Lib.hid hsx
            have hvr := hvd
            clear hb6 hown6 hsx hvd
            have hp3 := entsV_len hvr
            by_cases hrl : rl = []
            · have HRY := Lib.hid (show R = some (xs, -1) by rw [HRL.out, if_pos hrl])
              have hz : rl.length = 0 := by rw [hrl]; rfl
              have hz' : (rl.length : Int) = 0 := by omega
              clear hrl HRL
              go_wp2
              go_ret3
              exact SetRes.yes HRY.out HB6.out HSB6.out hczB hleB
            · have hz' : ¬ (rl.length : Int) = 0 := by
                intro e
                exact hrl (List.length_eq_zero_iff.1 (by omega))
              have HRY := Lib.hid (show R = if (putT xs (mk (foldT rl))).2.2 then some ((putT xs (mk (foldT rl))).1, prOf (tx (mk (foldT rl)))) else none by rw [HRL.out, if_neg hrl]; rfl)
              have hFT := fun w h => sFolderText_any X dx rl w h (by omega) (fitE_valid hvr)
              have hfl := foldT_len rl
              have hPT := fun w h => sPutText_any B d xs (mk (foldT rl)) w h hczB hleB (by omega) (fit_store HVX.out) (by rw [mk_size]; omega)
              unfold PutRes at hPT
              have hSP := fun w1 w2 v => @SetRes.put R xs (mk (foldT rl)) w w1 w2 v HRY.out
              clear HRY HRL hvr hfl hrl
              generalize mk (foldT rl) = FT at *
              generalize putT xs FT = PT at *
              obtain ⟨P1, P2, P3⟩ := PT
              simp only at hPT hSP
              have HSP := Lib.hid hSP
              have HFT := Lib.hid hFT
              have HPT := Lib.hid hPT
              clear hFT hPT hSP
              go_wp2_with fail
              refine (HFT.out _ HX6.out).mono ?_
              rintro e w7 ⟨rfl, hb7⟩
              replace HB6 := Lib.hid (Below_then HB6.out hb7 (Nat.le_refl _))
              replace HSB6 := Lib.hid (HSB6.out.below hb7)
              clear hb7
              go_wp2_with fail
              refine (HPT.out _ HSB6.out).mono ?_
              rintro e w8 ⟨v8, rfl, hown8, hb8⟩
              have HO8 := Lib.hid hown8
              have HB8 := Lib.hid hb8
              clear hown8 hb8
              go_wp2
              go_ret3
              exact HSP.out _ _ _ HO8.out HB6.out HB8.out
          · skip
            have hDE := fun w h => sDropEntry_any LA lc ll nm w h HLV.out
            unfold EnRes at hDE
            rw [show bs nm = tx nm from rfl] at hDE
            have hvd := dropE_valid HLV.out (tx nm)
            have HRP := Lib.hid (show R = if (putE ll (nm, m)).1 = [] then some (xs, -1) else if (putT xs (mk (foldT (putE ll (nm, m)).1))).2.2 then some ((putT xs (mk (foldT (putE ll (nm, m)).1))).1, prOf (foldT (putE ll (nm, m)).1)) else none by
              have h := HDU.out
              unfold dropUp at h
              simp only [if_neg hm] at h
              rw [show restD ll (tx nm) (some m) = (putE ll (mk (tx nm), m)).1 from rfl, mk_tx] at h
              exact h)
            have hPE := fun w h => sPutEntry_any LA lc ll (nm, m) w h HLC.out HLA.out HLE.out HLV.out HNM.out
            have hvp : entsV (putE ll (nm, m)).1 = true := by
              have h := restD_valid ll (tx nm) (some m)
              rwa [show restD ll (tx nm) (some m) = (putE ll (mk (tx nm), m)).1 from rfl, mk_tx] at h
            unfold EnRes at hPE
            generalize putE ll (nm, m) = PE at *
            obtain ⟨rl, ok2⟩ := PE
            simp only at hPE hvp HRP
            have HPE := Lib.hid hPE
            have hm' : ¬ m < 0 := hm
            have hm2 : 0 ≤ m := by omega
            clear hPE
            generalize dropE ll (tx nm) = DE at *
            obtain ⟨dl, ok3⟩ := DE
            simp only at hDE hvd
            have HDE := Lib.hid hDE
            clear hDE HDU
            go_wp2_with fail
            refine (HDE.out _ HLX.out).mono ?_
            rintro e w6 ⟨v6, rfl, hown6, hb6⟩
            have HB6 := Lib.hid (Below_then HBX.out hb6 (Nat.le_refl _))
            have HSB6 := Lib.hid (HSB.out.below hb6)
            have HLX6 := Lib.hid (HLX.out.below hb6)
            have hd6 := Below_cells hb6 _ _ _ hd
            clear hb6 hown6 hd
            go_wp2_with fail
            refine (HPE.out _ HLX6.out).mono ?_
            rintro e w9 ⟨v9, rfl, hown9, hb9⟩
            replace HB6 := Lib.hid (Below_then HB6.out hb9 (Nat.le_refl _))
            replace HSB6 := Lib.hid (HSB6.out.below hb9)
            obtain ⟨X, dx, rfl, hlex, hsx, _⟩ := hown9.sl
            have HX6 := Lib.hid hsx
            have hvr := hvp
            have HRL := HRP
            clear hb9 hown9 hsx hvd hvp HRP
            have hp3 := entsV_len hvr
            by_cases hrl : rl = []
            · have HRY := Lib.hid (show R = some (xs, -1) by rw [HRL.out, if_pos hrl])
              have hz : rl.length = 0 := by rw [hrl]; rfl
              have hz' : (rl.length : Int) = 0 := by omega
              clear hrl HRL
              go_wp2
              go_ret3
              exact SetRes.yes HRY.out HB6.out HSB6.out hczB hleB
            · have hz' : ¬ (rl.length : Int) = 0 := by
                intro e
                exact hrl (List.length_eq_zero_iff.1 (by omega))
              have HRY := Lib.hid (show R = if (putT xs (mk (foldT rl))).2.2 then some ((putT xs (mk (foldT rl))).1, prOf (tx (mk (foldT rl)))) else none by rw [HRL.out, if_neg hrl]; rfl)
              have hFT := fun w h => sFolderText_any X dx rl w h (by omega) (fitE_valid hvr)
              have hfl := foldT_len rl
              have hPT := fun w h => sPutText_any B d xs (mk (foldT rl)) w h hczB hleB (by omega) (fit_store HVX.out) (by rw [mk_size]; omega)
              unfold PutRes at hPT
              have hSP := fun w1 w2 v => @SetRes.put R xs (mk (foldT rl)) w w1 w2 v HRY.out
              clear HRY HRL hvr hfl hrl
              generalize mk (foldT rl) = FT at *
              generalize putT xs FT = PT at *
              obtain ⟨P1, P2, P3⟩ := PT
              simp only at hPT hSP
              have HSP := Lib.hid hSP
              have HFT := Lib.hid hFT
              have HPT := Lib.hid hPT
              clear hFT hPT hSP
              go_wp2_with fail
              refine (HFT.out _ HX6.out).mono ?_
              rintro e w7 ⟨rfl, hb7⟩
              replace HB6 := Lib.hid (Below_then HB6.out hb7 (Nat.le_refl _))
              replace HSB6 := Lib.hid (HSB6.out.below hb7)
              clear hb7
              go_wp2_with fail
              refine (HPT.out _ HSB6.out).mono ?_
              rintro e w8 ⟨v8, rfl, hown8, hb8⟩
              have HO8 := Lib.hid hown8
              have HB8 := Lib.hid hb8
              clear hown8 hb8
              go_wp2
              go_ret3
              exact HSP.out _ _ _ HO8.out HB6.out HB8.out
theorem sl10d_all (A : Option Addr) (c : Nat) (l : List Pc) (hcz : A = none → c = 0) (hle : l.length ≤ c) (hv : storeV l = true) : ∀ (n : Nat) (pl : List ByteArray), pl.length = n + 1 → ∀ (p : Int) (PA : Option Addr) (pc : Nat) (w : World), D10 A c l p PA pc pl w
  | 0, pl, hn, p, PA, pc, w => sl10d_step A c l hcz hle hv pl (by omega) (fun h => by omega) p PA pc w
  | n + 1, pl, hn, p, PA, pc, w => sl10d_step A c l hcz hle hv pl (by omega) (fun h p2 PA2 pc2 w2 => sl10d_all A c l hcz hle hv n (pl.drop 1) (by rw [List.length_drop]; omega) p2 PA2 pc2 w2) p PA pc w
end Go.Proofs.YtkglfmgmmnfmbaaDoor

/- PutEntry of the program, walked. -/
set_option linter.unusedVariables false
namespace Go.Proofs.YtkglfmgmmnfmbaaDoor
open Go.RowKit
attribute [local go_sem] mk_toList
end Go.Proofs.YtkglfmgmmnfmbaaDoor
