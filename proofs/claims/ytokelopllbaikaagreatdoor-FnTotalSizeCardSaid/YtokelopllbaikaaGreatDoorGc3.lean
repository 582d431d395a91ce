/- Texts in one: Ze, Fd, M1. -/
import Derived.Test.YtokelopllbaikaaGreatDoorGa2
import Derived.Test.YtokelopllbaikaaGreatDoorGa6
import Derived.Test.YtokelopllbaikaaGreatDoorGa7
import Derived.Test.YtokelopllbaikaaGreatDoorS4
import Derived.Test.YtokelopllbaikaaGreatDoorGb7
import Derived.Test.YtokelopllbaikaaGreatDoorGa5
/- The program's ways through folders, step by step: from the root down, and from the last one up. Plain Lean, no program in sight. -/
set_option linter.unusedVariables false
namespace Go.Proofs.YtokelopllbaikaaGreatDoor
/-! ### down -/
theorem foldsL_step {s : List Pc} {a : Option Int} {n : Bs} {r : List Bs} {acc : List (List En)} : (foldsL s a (n :: r)).map (acc ++ ·) = (listAt s a).bind fun l => (foldsL s (getE l n) r).map ((acc ++ [l]) ++ ·) := by
  rw [foldsL]
  cases listAt s a with
  | none => rfl
  | some l =>
    simp only [Option.bind_some]
    cases foldsL s (getE l n) r with
    | none => rfl
    | some fs => simp
theorem foldsL_end {s : List Pc} {a : Option Int} {acc : List (List En)} : (foldsL s a []).map (acc ++ ·) = if leafOk s a then some acc else none := by
  rw [foldsL]
  cases leafOk s a <;> simp
theorem listAt_vals {s : List Pc} {a : Option Int} {l : List En} (h : listAt s a = some l) : entsV l = true := by
  cases a with
  | none => injection h with h; subst h; rfl
  | some p => exact folder_valid h
theorem foldsL_valid {s : List Pc} : ∀ (r : List Bs) (a : Option Int) (fs : List (List En)), foldsL s a r = some fs → fs.length = r.length ∧ ∀ l ∈ fs, entsV l = true
  | [], a, fs, h => by
    rw [foldsL] at h
    split at h
    · injection h with h; subst h; exact ⟨rfl, by simp⟩
    · cases h
  | n :: r, a, fs, h => by
    rw [foldsL] at h
    obtain ⟨l, hl, h⟩ := Option.bind_eq_some_iff.1 h
    obtain ⟨fs', hf, rfl⟩ := Option.map_eq_some_iff.1 h
    obtain ⟨h1, h2⟩ := foldsL_valid r _ _ hf
    exact ⟨by simp [h1], fun x hx => by
      rcases List.mem_cons.1 hx with rfl | hx
      · exact listAt_vals hl
      · exact h2 x hx⟩
/-! ### up -/
theorem upT_nil (leaf : Int) : upT [] [] leaf = some ([], leaf) := rfl
theorem upT_cons (l : List En) (fs : List (List En)) (n : Bs) (ns : List Bs) (leaf : Int) : upT (l :: fs) (n :: ns) leaf = (upT fs ns leaf).bind fun x => if (putE l (mk n, x.2)).2 then some (x.1 ++ [mk (foldT (putE l (mk n, x.2)).1)], prOf (foldT (putE l (mk n, x.2)).1)) else none := rfl
theorem upT_snoc : ∀ (fs : List (List En)) (ns : List Bs), fs.length = ns.length → ∀ (l : List En) (n : Bs) (leaf : Int),
    upT (fs ++ [l]) (ns ++ [n]) leaf = if (putE l (mk n, leaf)).2 then (upT fs ns (prOf (foldT (putE l (mk n, leaf)).1))).map fun x => (mk (foldT (putE l (mk n, leaf)).1) :: x.1, x.2) else none
  | [], [], _, l, n, leaf => by
    rw [List.nil_append, List.nil_append, upT_cons, upT_nil, upT_nil]; rfl
  | [], _ :: _, h, _, _, _ => by simp at h
  | _ :: _, [], h, _, _, _ => by simp at h
  | l0 :: fs, n0 :: ns, h, l, n, leaf => by
    rw [List.cons_append, List.cons_append, upT_cons, upT_snoc fs ns (by simpa using h), upT_cons]
    split
    · cases upT fs ns (prOf (foldT (putE l (mk n, leaf)).1)) with
      | none => rfl
      | some x =>
        simp only [Option.map_some, Option.bind_some]
        split <;> rfl
    · rfl
/-- Folders put anew, from the last one up. -/
def putF (s : List Pc) (fs : List (List En)) (ns : List Bs) (p : Int) : Option (List Pc × Int) := (upT fs ns p).bind fun x => (putAll s x.1).map fun s' => (s', x.2)
theorem putF_snoc {s : List Pc} {fs : List (List En)} {ns : List Bs} (h : fs.length = ns.length) (l : List En) (n : Bs) (p : Int) :
    putF s (fs ++ [l]) (ns ++ [n]) p = if (putE l (mk n, p)).2 then (if (putT s (mk (foldT (putE l (mk n, p)).1))).2.2 then putF (putT s (mk (foldT (putE l (mk n, p)).1))).1 fs ns (prOf (foldT (putE l (mk n, p)).1)) else none) else none := by
  unfold putF
  rw [upT_snoc fs ns h]
  split
  · cases upT fs ns (prOf (foldT (putE l (mk n, p)).1)) with
    | none => simp
    | some x =>
      simp only [Option.map_some, Option.bind_some]
      rw [putAll]
      split <;> rfl
  · rfl
theorem putF_first {s : List Pc} {fs : List (List En)} {ns : List Bs} {p : Int} {t : ByteArray} : ((upT fs ns p).bind fun x => (putAll s (t :: x.1)).map fun s' => (s', x.2)) = if (putT s t).2.2 then putF (putT s t).1 fs ns p else none := by
  unfold putF
  cases upT fs ns p with
  | none => simp
  | some x =>
    simp only [Option.bind_some]
    rw [putAll]
    split <;> rfl
theorem writeP_I {s : List Pc} {root : Int} {n : Bs} {r : List Bs} {c : Bs} : writeP s root (n :: r) c = (foldsL s (some root) (n :: r)).bind fun fs => if (putT s (mk (fileT c))).2.2 then putF (putT s (mk (fileT c))).1 fs (n :: r) (prOf (fileT c)) else none := by
  unfold writeP
  rw [foldsW_L]
  congr 1
  funext fs
  exact putF_first
/-- The step of the way up at k: what comes of it is the same. -/
theorem putF_take {s : List Pc} {fs : List (List En)} {ns : List Bs} {p : Int} {k : Nat} (h : fs.length = ns.length) (hk : k < fs.length) :
    putF s (fs.take (k + 1)) (ns.take (k + 1)) p = if (putE fs[k] (mk (ns[k]'(by omega)), p)).2 then (if (putT s (mk (foldT (putE fs[k] (mk (ns[k]'(by omega)), p)).1))).2.2 then putF (putT s (mk (foldT (putE fs[k] (mk (ns[k]'(by omega)), p)).1))).1 (fs.take k) (ns.take k) (prOf (foldT (putE fs[k] (mk (ns[k]'(by omega)), p)).1)) else none) else none := by
  have hk2 : k < ns.length := by omega
  rw [List.take_succ_eq_append_getElem hk, List.take_succ_eq_append_getElem hk2, putF_snoc (by rw [List.length_take, List.length_take, h])]
end Go.Proofs.YtokelopllbaikaaGreatDoor

/- Rows of rows of entries: what the program keeps of the folders on its way. -/
set_option linter.unusedVariables false
namespace Go.Proofs.YtokelopllbaikaaGreatDoor
open Go.RowKit
abbrev Sv := Option Addr × Nat × Nat
def encL (x : Sv) : List Value := [.slice x.1 x.2.1 x.2.2]
/-- What one slice of a row of slices holds, in w, apart from the row v. -/
structure RowL (w : World) (v : Value) (x : Sv) (l : List En) : Prop where
  len : x.2.1 = l.length
  sl : Sl w encE 2 x.1 l
  cz : x.1 = none → x.2.2 = 0
  le : l.length ≤ x.2.2
  hd : x.1 = none ∨ ∃ b o, x.1 = some ⟨b, o, none⟩
  apart : Apart x.1 v
  lt : LtA x.1 w.heap.size
  val : entsV l = true
section
variable {w w' wr : World} {v v' : Value} {x : Sv} {l : List En} {fs : List (List En)} {base : Nat}
theorem RowL.below (h : RowL w v x l) (hb : Below w.heap.size w w') : RowL w' v x l := { h with sl := h.sl.below hb, lt := h.lt.mono hb.size }
theorem RowL.grew (h : RowL w v x l) (hg : Grew v w w') (hk : Kin v w v') : RowL w' v' x l := { h with sl := h.sl.grew hg h.apart, apart := h.apart.kin h.lt hk, lt := h.lt.mono hg.size }
def Folds (w : World) (base : Nat) (v : Value) (fs : List (List En)) : Prop :=
  ∃ ss : List Sv, Own w base 62 1 encL v ss ∧ ss.length = fs.length ∧ ∀ (k : Nat) (h1 : k < ss.length) (h2 : k < fs.length), RowL w v ss[k] fs[k]
theorem Folds.nil : Folds w base (.slice none 0 0) [] := ⟨[], Own.nil, rfl, fun k h => by simp at h⟩
theorem Folds.below (h : Folds w base v fs) (hb : Below w.heap.size w w') : Folds w' base v fs := by
  obtain ⟨ss, h1, h2, h3⟩ := h
  exact ⟨ss, h1.below hb, h2, fun k k1 k2 => (h3 k k1 k2).below hb⟩
theorem Folds.mono (h : Folds w base v fs) {b2 : Nat} (hb : b2 ≤ base) : Folds w b2 v fs := by
  obtain ⟨ss, h1, h2, h3⟩ := h
  exact ⟨ss, h1.mono hb, h2, h3⟩
theorem Folds.drewN (h : Folds w base v fs) (n : Nat) : Folds (w.drewN n) base v fs := h.below (Below_drewN (Below.refl _ _) n)
theorem Folds.alloc (h : Folds w base v fs) (o : Obj) : Folds (w.alloc o) base v fs := h.below ((Below.refl _ _).alloc (Nat.le_refl _) o)
theorem Folds.blk (h : Folds w base v fs) : ∀ g, v.ownBlock = some g → base ≤ g ∧ g < w.heap.size := h.choose_spec.1.blk
theorem Folds.val (h : Folds w base v fs) {k : Nat} (hk : k < fs.length) : entsV fs[k] = true := by
  obtain ⟨ss, h1, h2, h3⟩ := h
  exact (h3 k (by omega) hk).val
/-- A row of rows is a slice. -/
theorem Folds.hd (h : Folds w base v fs) : ∃ A c, v = .slice A fs.length c ∧ fs.length ≤ c ∧ (A = none → c = 0) := by
  obtain ⟨ss, h1, h2, h3⟩ := h
  obtain ⟨A, c, rfl, hle, _, _⟩ := h1.sl
  exact ⟨A, c, by rw [h2], by omega, h1.cz⟩
theorem Folds.at {A : Option Addr} {n c : Nat} (h : Folds w base (.slice A n c) fs) {k : Nat} (hk : k < fs.length) :
    ∃ b o x, A = some ⟨b, o, none⟩ ∧ w.cell? ⟨b, o + k, none⟩ = some (.slice x.1 fs[k].length x.2.2) ∧ RowL w (.slice A n c) x fs[k] := by
  obtain ⟨ss, h1, h2, h3⟩ := h
  have hr := h3 k (by omega) hk
  obtain ⟨A', c', e, _, hs, _⟩ := h1.sl
  injection e with e1 e2 e3
  subst e1
  obtain ⟨b, o, eA, hc⟩ := hs.get (fun _ => rfl) (k := k) (by omega)
  refine ⟨b, o, ss[k], eA, ?_, hr⟩
  have := hc 0 (.slice ss[k].1 ss[k].2.1 ss[k].2.2) (by omega) rfl
  rw [hr.len] at this
  simpa using this
theorem sv_info : (Tryz.prog.info? 62).map (fun i => (i.zero, i.size, i.bytes)) = some (some (.slice none 0 0), 1, 24) := by kernel_rfl
end
section
variable {ops : Array Oper} {rest : List Oper} {o : Oper} {a : Act} {Q : Exit → Act → World → Prop} {w0 wr : World} {v : Value}
theorem app_fold {fs : List (List En)} {A : Option Addr} {n c : Nat} {l : List En} {s x : Operand} (hgd : o.guard = none) (ho : o.op = .call { callee := .builtin .append, args := #[s, x], argTypes := #[44, 44] })
    (hs : a.eval s = v) (hx : a.eval x = .slice (some ⟨wr.heap.size, 0, none⟩) 1 1)
    (hF : Folds wr w0.heap.size v fs) (hb : Below w0.heap.size w0 wr) (hn : fs.length ≤ 16777216)
    (hr : RowL wr v (A, n, c) l)
    (h : ∀ v' w', Folds w' w0.heap.size v' (fs ++ [l]) → Below w0.heap.size w0 w' → Grew v wr w' → Kin v wr v' → wpList Tryz.prog ops Q rest (a.put o.dst v') w') :
    wpList Tryz.prog ops Q (o :: rest) a (wr.alloc (.cells #[.slice A n c] 62)) := by
  obtain ⟨i0, hi0, hz0, hz1, hz2⟩ := info_parts sv_info
  obtain ⟨ss, h1, h2, h3⟩ := hF
  refine wpList_app3 (enc := encL) Tryz.underlying44 hi0 hz0 hz1 hz2 rfl (by decide) (by decide) hgd s x ho hs hx h1 hb (Nat.le_refl _) hb.size (by omega) (A, n, c) _ rfl rfl (by intro u hu; simp [encL] at hu; subst hu; rfl) ?_
  intro v' w' hown hb' hg hk
  refine h v' w' ⟨ss ++ [(A, n, c)], hown, by simp [h2], fun k k1 k2 => ?_⟩ hb' hg hk
  by_cases e : k < ss.length
  · rw [List.getElem_append_left e, List.getElem_append_left (by omega)]
    exact (h3 k e (by omega)).grew hg hk
  · rw [List.length_append, List.length_singleton] at k1
    obtain rfl : k = ss.length := by omega
    rw [List.getElem_append_right (Nat.le_refl _), List.getElem_append_right (by omega)]
    simp only [Nat.sub_self, List.getElem_singleton]
    exact hr.grew hg hk
end
end Go.Proofs.YtokelopllbaikaaGreatDoor

/- FnBundlePrint, walked: prints of stores go on. -/
set_option linter.unusedVariables false
namespace Go.Proofs.YtokelopllbaikaaGreatDoor
open Go.RowKit
theorem StOk.fitP {n : Int} {l : List Pc} {root : Int} (h : StOk n l root) : FitP l := fun q hq => Nat.le_trans (h.fit q hq) (by omega)
end Go.Proofs.YtokelopllbaikaaGreatDoor
