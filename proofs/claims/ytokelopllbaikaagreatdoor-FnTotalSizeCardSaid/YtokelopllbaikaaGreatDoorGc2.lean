/- Texts in one: Rb, Dr4, Zc, Bl. -/
import Derived.Test.YtokelopllbaikaaGreatDoorGb4
import Derived.Test.YtokelopllbaikaaGreatDoorGa9
import Derived.Test.YtokelopllbaikaaGreatDoorGb2
import Derived.Test.YtokelopllbaikaaGreatDoorGa6
import Derived.Test.YtokelopllbaikaaGreatDoorGa8
import Derived.Test.YtokelopllbaikaaGreatDoorGa0
import Derived.Test.YtokelopllbaikaaGreatDoorSto
import Derived.Test.YtokelopllbaikaaGreatDoorGa7
import Derived.Deep.RegionHeld3
/- ReadBundle, walked. -/
set_option linter.unusedVariables false
namespace Go.Proofs.YtokelopllbaikaaGreatDoor
open Go.RowKit
theorem fit_store {st : List Pc} (h : storeV st = true) : FitP st := fun p hp => by
  have := textV_size (pieceOk_iff.1 (storeV_piece h hp)).1; omega
end Go.Proofs.YtokelopllbaikaaGreatDoor

/- Drawn inputs: lists of pieces, lists of names. -/
set_option linter.unusedVariables false
namespace Go.Proofs.YtokelopllbaikaaGreatDoor
open Go.RowKit

section
variable {ops : Array Oper} {rest : List Oper} {o : Oper} {a : Act} {Q : Exit → Act → World → Prop} {w0 wr : World} {v : Value} {g : Nat}
end
def FewP (l : List Pc) : Prop := l.length ≤ 8 ∧ ∀ p ∈ l, -1 ≤ p.1 ∧ p.1 ≤ 16777212 ∧ p.2.size ≤ 60
theorem FewP.fit {l : List Pc} (h : FewP l) : FitP l := fun p hp => Nat.le_trans (h.2 p hp).2.2 (by omega)
/-! ### names -/
end Go.Proofs.YtokelopllbaikaaGreatDoor

/- Sizes of files, files with a word, quotas that are passed: their laws. Plain Lean, no program in sight. -/
set_option linter.unusedVariables false
namespace Go.Proofs.YtokelopllbaikaaGreatDoor
theorem foldl_addI {α : Type} (g : α → Int) : ∀ (l : List α) (n : Int), l.foldl (fun n p => n + g p) n = n + (l.map g).sum
  | [], n => by simp
  | x :: r, n => by rw [List.foldl_cons, foldl_addI g r, List.map_cons, List.sum_cons]; omega
theorem sum_app : ∀ (a b : List Int), (a ++ b).sum = a.sum + b.sum
  | [], b => by simp
  | x :: r, b => by rw [List.cons_append, List.sum_cons, List.sum_cons, sum_app r b]; omega
theorem sum_flat {α β : Type} (f : α → List β) (g : β → Int) : ∀ l : List α, ((l.flatMap f).map g).sum = (l.map fun e => ((f e).map g).sum).sum
  | [] => rfl
  | x :: r => by rw [List.flatMap_cons, List.map_append, sum_app, List.map_cons, List.sum_cons, sum_flat f g r]
def lenAt (s : List Pc) (root : Int) (p : Bs) : Int := ((contentAt s root p).length : Int)
theorem sizeOf'_sum (s : List Pc) (root : Int) (l : List Bs) : sizeOf' s root l = (l.map (lenAt s root)).sum := by
  unfold sizeOf'
  rw [show (fun (n : Int) p => n + ((contentAt s root p).length : Int)) = fun n p => n + lenAt s root p from rfl, foldl_addI]; omega
theorem belowP_root {f : Bs} (h : (pathP f).isSome = true) : belowP f [47] = true := by
  obtain ⟨a, ha⟩ := Option.isSome_iff_exists.1 h
  unfold belowP
  rw [ha, show pathP [47] = some [] by decide]; rfl
theorem usedP_root {s : List Pc} (hs : storeV s = true) (root : Int) : usedP s root [47] = totalP s root := by
  unfold usedP totalP
  rw [hs, show (pathP [47]).isSome = true by decide]
  show sizeOf' s root ((allF s root).filter fun f => belowP f [47]) = _
  rw [List.filter_eq_self.2 fun f hf => belowP_root (allF_path hf)]
/-! ### a file more -/
theorem walkP_keep {s s' : List Pc} (hk : Keep s s') : ∀ (qs : List Bs) (p q : Int), walkP s p qs = some q → walkP s' p qs = some q
  | [], p, q, h => by
    rw [walkP] at h ⊢
    split at h
    · rename_i hp; rw [if_pos (hk.there hp)]; exact h
    · cases h
  | n :: r, p, q, h => by
    rw [walkP] at h ⊢
    obtain ⟨l, hl, h⟩ := Option.bind_eq_some_iff.1 h
    obtain ⟨x, hx, h⟩ := Option.bind_eq_some_iff.1 h
    rw [hk.fold hl, Option.bind_some, hx, Option.bind_some]
    exact walkP_keep hk r x q h
theorem content_file {s : List Pc} {root p q : Int} {l : List En} {n c : Bs} {qs : List Bs} (hs : storeV s = true) (hf : folderOf s root = some l) (hg : getE l n = some p) (hv : partsV (n :: qs) = true) (hw : walkP s p qs = some q) (hc : fileOf s q = some c) :
    contentAt s root (joinP (n :: qs)) = c := by
  unfold contentAt readAt walkTo
  rw [if_pos hs, pathP_of hv, Option.bind_some, walkP, hf, Option.bind_some, hg, Option.bind_some, hw, Option.bind_some, hc]; rfl
theorem stepF_mem {s : List Pc} {e : En} (he : entOk e = true) {x : Bs} (hx : x ∈ stepF s 2 [] e) : ∃ qs q, partsV (tx e.1 :: qs) = true ∧ x = joinP (tx e.1 :: qs) ∧ walkP s e.2 qs = some q ∧ (fileOf s q).isSome = true := by
  have hw := (entOk_iff.1 he).1
  unfold stepF at hx
  split at hx
  · rename_i hfi
    rw [List.mem_singleton] at hx
    exact ⟨[], e.2, partsV_iff.2 ⟨by simp, by simpa using hw⟩, hx, by rw [walkP, if_pos (file_there hfi)], hfi⟩
  · obtain ⟨qs, q, _, h2, h3, h4, h5⟩ := filesP_mem 2 e.2 ([] ++ [tx e.1]) (by simpa using hw) (by simp) x hx
    exact ⟨qs, q, h2, h3, h4, h5⟩
def nameZ : Bs := [122, 122]
def pathZ : Bs := [47, 122, 122]
theorem total_write {N : Bs → Prop} {s s' : List Pc} {root r' : Int} {c : Bs} (hg : Good N s) (hz : ¬ N nameZ) (h : writeA s root pathZ c = (s', r', true)) : totalP s' r' = totalP s root + (c.length : Int) := by
  have hch := write_chg h
  obtain ⟨hs, hc, n, r, fs, x, hpp, hf, hx, hput, rfl⟩ := writeA_ok h
  rw [show pathP pathZ = some [nameZ] by decide] at hpp
  injection hpp with hpp
  injection hpp with e1 e2
  subst e1 e2
  obtain ⟨l, fs', hl, hf2, rfl, _⟩ := foldsW_top hf
  rw [foldsW] at hf2
  injection hf2 with hf2
  subst hf2
  obtain ⟨y, hy, hpe, rfl⟩ := upT_top hx
  have hy : some (([] : List ByteArray), prOf (fileT c)) = some y := hy
  injection hy with hy
  subst hy
  obtain ⟨g1, g2, g3⟩ := putE_ok hpe
  have hl : folderOf s root = some l := hl
  have hfo := folder_put hs hput (l := (putE l (mk nameZ, prOf (fileT c))).1) (by simp) g2
  have hfi := file_put hs hput (c := c) (by simp) hc
  have hso := entsV_sorted g1
  have hno : hereE l nameZ = false := by
    rw [hereE_get hso]
    cases hge : getE l nameZ with
    | none => rfl
    | some p => exact absurd (hg root l hl _ (getE_some hge)).2 (by rw [tx_mk]; exact hz)
  simp only at hfo hput hfi g2 g3 ⊢
  rw [g3] at hfo g2 ⊢
  have hins : insE l (mk nameZ, prOf (fileT c)) = l.take (posE l nameZ) ++ (mk nameZ, prOf (fileT c)) :: l.drop (posE l nameZ) := by
    unfold insE
    rw [show tx (mk nameZ, prOf (fileT c)).1 = nameZ from rfl, hno]; rfl
  have ht : ∀ (s : List Pc) (p : Int) (l : List En), storeV s = true → folderOf s p = some l → totalP s p = (l.map fun e => ((stepF s 2 [] e).map (lenAt s p)).sum).sum := fun s p l hs hl => by
    unfold totalP allF
    rw [if_pos hs, filesP_succ, hl, Option.getD_some, sizeOf'_sum, sum_flat]
  rw [ht _ _ _ hch.valid hfo, ht _ _ _ hs hl]
  generalize prOf (foldT (insE l (mk nameZ, prOf (fileT c)))) = R at *
  have hold : ∀ e ∈ l, ((stepF s' 2 [] e).map (lenAt s' R)).sum = ((stepF s 2 [] e).map (lenAt s root)).sum := fun e he => by
    have h2 := hg root l hl e he
    have hst : stepF s' 2 [] e = stepF s 2 [] e := by
      unfold stepF
      rw [hch.keep.fi h2.1, filesP_keep hg hch.keep 2 e.2 _ h2.1]
    rw [hst]
    congr 1
    refine List.map_congr_left fun x hx => ?_
    obtain ⟨qs, q, k1, rfl, k3, k4⟩ := stepF_mem (entsV_ok g1 he) hx
    obtain ⟨t, ht⟩ := Option.isSome_iff_exists.1 k4
    have ge : getE l (tx e.1) = some e.2 := getE_mem hso (show (mk (tx e.1), e.2) ∈ l by rw [mk_tx]; exact he)
    have hne : tx e.1 ≠ nameZ := fun e0 => hz (e0 ▸ h2.2)
    have ge' : getE (insE l (mk nameZ, prOf (fileT c))) (tx e.1) = some e.2 := getE_mem (entsV_sorted g2) (by
      rw [mk_tx]; exact (mem_insE hso _ _).2 (.inr ⟨he, hne⟩))
    unfold lenAt
    rw [content_file hs hl ge k1 k3 ht, content_file hch.valid hfo ge' k1 (walkP_keep hch.keep _ _ _ k3) (by rw [hch.keep.fi (walkP_there k3)]; exact ht)]
  have hnew : ((stepF s' 2 [] (mk nameZ, prOf (fileT c))).map (lenAt s' R)).sum = (c.length : Int) := by
    have e : stepF s' 2 [] (mk nameZ, prOf (fileT c)) = [joinP [nameZ]] := by
      unfold stepF
      rw [show fileOf s' (mk nameZ, prOf (fileT c)).2 = some c from hfi]; rfl
    have ge : getE (insE l (mk nameZ, prOf (fileT c))) nameZ = some (prOf (fileT c)) := getE_mem (entsV_sorted g2) ((mem_insE hso _ _).2 (.inl rfl))
    rw [e]
    have hcont : contentAt s' R (joinP [nameZ]) = c := content_file hch.valid hfo ge (by decide) (by rw [walkP, if_pos (file_there (by rw [hfi]; rfl))]) hfi
    rw [List.map_cons, List.map_nil, List.sum_cons, List.sum_nil]
    unfold lenAt
    rw [hcont]; omega
  rw [hins, List.map_append, List.map_cons, sum_app, List.sum_cons, hnew]
  have e1 : (l.map fun e => ((stepF s 2 [] e).map (lenAt s root)).sum).sum = ((l.take (posE l nameZ)).map fun e => ((stepF s 2 [] e).map (lenAt s root)).sum).sum + ((l.drop (posE l nameZ)).map fun e => ((stepF s 2 [] e).map (lenAt s root)).sum).sum := by
    rw [← sum_app, ← List.map_append, List.take_append_drop]
  have e2 : ((l.take (posE l nameZ)).map fun e => ((stepF s' 2 [] e).map (lenAt s' R)).sum) = (l.take (posE l nameZ)).map fun e => ((stepF s 2 [] e).map (lenAt s root)).sum := List.map_congr_left fun e he => hold e (List.mem_of_mem_take he)
  have e3 : ((l.drop (posE l nameZ)).map fun e => ((stepF s' 2 [] e).map (lenAt s' R)).sum) = (l.drop (posE l nameZ)).map fun e => ((stepF s 2 [] e).map (lenAt s root)).sum := List.map_congr_left fun e he => hold e (List.mem_of_mem_drop he)
  rw [e1, e2, e3]; omega
/-! ### found ones stand in their order -/
/-! ### quotas -/
end Go.Proofs.YtokelopllbaikaaGreatDoor

/- BundleLines, walked. -/
set_option linter.unusedVariables false
namespace Go.Proofs.YtokelopllbaikaaGreatDoor
open Go.RowKit
--BEGIN
end Go.Proofs.YtokelopllbaikaaGreatDoor
