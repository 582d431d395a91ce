/- Texts in one: Za, Zb, Jp, Ct, Ai. -/
import Derived.Test.YtokelopllbaikaaGreatDoorGb2
import Derived.Test.YtokelopllbaikaaGreatDoorGa2
import Derived.Test.YtokelopllbaikaaGreatDoorGa7
import Derived.Test.YtokelopllbaikaaGreatDoorGa4
import Derived.Test.YtokelopllbaikaaGreatDoorGa9
import Derived.Test.YtokelopllbaikaaGreatDoorShelf
import Derived.Lib.IndexBytes
/- What a write or a drop leaves: stores that only grow, folders that name what is there. Plain Lean, no program in sight. -/
set_option linter.unusedVariables false
namespace Go.Proofs.YtokelopllbaikaaGreatDoor
theorem restD_valid (l : List En) (n : Bs) (o : Option Int) : entsV (restD l n o) = true := by
  cases hv : entsV l
  · cases o with
    | none => show entsV (dropE l n).1 = true; rw [dropE_bad hv]; rfl
    | some q => show entsV (putE l (mk n, q)).1 = true; rw [putE_bad hv]; rfl
  · cases o with
    | none => exact dropE_valid hv n
    | some q =>
      show entsV (putE l (mk n, q)).1 = true
      unfold putE
      rw [hv, if_pos rfl]
      split
      · rename_i h; exact h
      · exact hv
theorem restD_mem {l : List En} {n : Bs} {o : Option Int} {e : En} (h : e ∈ restD l n o) : e ∈ l ∨ (e.1 = mk n ∧ o = some e.2) := by
  cases hv : entsV l
  · cases o with
    | none =>
      have h2 : e ∈ (dropE l n).1 := h
      rw [dropE_bad hv] at h2; cases h2
    | some q =>
      have h2 : e ∈ (putE l (mk n, q)).1 := h
      rw [putE_bad hv] at h2; cases h2
  · cases o with
    | none =>
      have h2 : e ∈ (dropE l n).1 := h
      rw [dropE_filter hv] at h2
      exact .inl (List.mem_filter.1 h2).1
    | some q =>
      have h2 : e ∈ (putE l (mk n, q)).1 := h
      unfold putE at h2
      rw [hv, if_pos rfl] at h2
      split at h2
      · rcases (mem_insE (entsV_sorted hv) (mk n, q) e).1 h2 with rfl | ⟨h3, _⟩
        · exact .inr ⟨rfl, rfl⟩
        · exact .inl h3
      · exact .inl h2
theorem folder_put {s s' : List Pc} {ts : List ByteArray} {l : List En} (hs : storeV s = true) (h : putAll s ts = some s') (ht : mk (foldT l) ∈ ts) (hl : entsV l = true) : folderOf s' (prOf (foldT l)) = some l := by
  have h1 : getT s' (prOf (foldT l)) = some (mk (foldT l)) := getT_put hs h ht
  unfold folderOf
  rw [h1, Option.bind_some]
  exact readF_foldT hl
theorem file_put {s s' : List Pc} {ts : List ByteArray} {c : Bs} (hs : storeV s = true) (h : putAll s ts = some s') (ht : mk (fileT c) ∈ ts) (hc : contV c = true) : fileOf s' (prOf (fileT c)) = some c := by
  have h1 : getT s' (prOf (fileT c)) = some (mk (fileT c)) := getT_put hs h ht
  unfold fileOf
  rw [h1, Option.bind_some]
  exact readFi_fileT hc
/-! ### the parts of a write -/
theorem upT_top {l : List En} {fs : List (List En)} {n : Bs} {ns : List Bs} {leaf : Int} {x : List ByteArray × Int} (h : upT (l :: fs) (n :: ns) leaf = some x) :
    ∃ y, upT fs ns leaf = some y ∧ (putE l (mk n, y.2)).2 = true ∧ x = (y.1 ++ [mk (foldT (putE l (mk n, y.2)).1)], prOf (foldT (putE l (mk n, y.2)).1)) := by
  rw [upT] at h
  obtain ⟨y, hy, h⟩ := Option.bind_eq_some_iff.1 h
  split at h
  · rename_i hp; injection h with h; exact ⟨y, hy, hp, h.symm⟩
  · cases h
theorem foldsW_top {s : List Pc} {a : Option Int} {n : Bs} {r : List Bs} {fs : List (List En)} (h : foldsW s a (n :: r) = some fs) :
    ∃ l fs', listAt s a = some l ∧ foldsW s (getE l n) r = some fs' ∧ fs = l :: fs' ∧ (r = [] → leafOk s (getE l n) = true) := by
  rw [foldsW] at h
  obtain ⟨l, hl, h⟩ := Option.bind_eq_some_iff.1 h
  split at h
  · cases h
  · rename_i hc
    obtain ⟨fs', h1, h2⟩ := Option.map_eq_some_iff.1 h
    refine ⟨l, fs', hl, h1, h2.symm, ?_⟩
    rintro rfl
    simpa using hc
theorem foldsW_mem {s : List Pc} : ∀ (ps : List Bs) (a : Option Int) (fs : List (List En)), foldsW s a ps = some fs → ∀ l ∈ fs, l = [] ∨ ∃ p, folderOf s p = some l
  | [], a, fs, h, l, hl => by rw [foldsW] at h; injection h with h; subst h; cases hl
  | n :: r, a, fs, h, l, hl => by
    obtain ⟨l0, fs', h1, h2, rfl, _⟩ := foldsW_top h
    rcases List.mem_cons.1 hl with rfl | hl
    · cases a with
      | none => have h1 : some [] = some l := h1; injection h1 with h1; exact .inl h1.symm
      | some p => exact .inr ⟨p, h1⟩
    · exact foldsW_mem r _ fs' h2 l hl
theorem foldsD_mem {s : List Pc} : ∀ (ps : List Bs) (p : Int), ∀ l ∈ foldsD s p ps, l = [] ∨ ∃ p, folderOf s p = some l
  | [], p, l, hl => by cases hl
  | n :: r, p, l, hl => by
    rw [foldsD] at hl
    rcases List.mem_cons.1 hl with rfl | hl
    · cases h : folderOf s p with
      | none => exact .inl rfl
      | some x => exact .inr ⟨p, h⟩
    · exact foldsD_mem r _ l hl
/-- What a folder put anew holds: what it held, and the name with a print below. -/
def NewIn (fs : List (List En)) (ns : List Bs) (P : Int → Prop) (t : ByteArray) : Prop :=
  ∃ L : List En, entsV L = true ∧ t = mk (foldT L) ∧ ∀ e ∈ L, (∃ l ∈ fs, e ∈ l) ∨ (tx e.1 ∈ ns ∧ P e.2)
theorem NewIn.up {fs : List (List En)} {ns : List Bs} {P Q : Int → Prop} {t : ByteArray} {l : List En} {n : Bs} (h : NewIn fs ns P t) (hP : ∀ p, P p → Q p) : NewIn (l :: fs) (n :: ns) Q t := by
  obtain ⟨L, h1, h2, h3⟩ := h
  refine ⟨L, h1, h2, fun e he => ?_⟩
  rcases h3 e he with ⟨m, hm, h4⟩ | ⟨h4, h5⟩
  · exact .inl ⟨m, by simp [hm], h4⟩
  · exact .inr ⟨by simp [h4], hP _ h5⟩
theorem upT_texts : ∀ (fs : List (List En)) (ns : List Bs) (leaf : Int) (x : List ByteArray × Int), upT fs ns leaf = some x →
    (∀ t ∈ x.1, NewIn fs ns (fun q => q = leaf ∨ ∃ u ∈ x.1, q = prOf (tx u)) t) ∧ (x.2 = leaf ∨ ∃ u ∈ x.1, x.2 = prOf (tx u))
  | [], ns, leaf, x, h => by
    rw [upT] at h; injection h with h; subst h
    · exact ⟨fun t ht => by simp at ht, .inl rfl⟩
    · intro l fs n ns h; cases h
  | l :: fs, [], leaf, x, h => by
    rw [upT] at h; injection h with h; subst h
    · exact ⟨fun t ht => by simp at ht, .inl rfl⟩
    · intro l fs n ns _ h; cases h
  | l :: fs, n :: ns, leaf, x, h => by
    obtain ⟨y, hy, hp, rfl⟩ := upT_top h
    obtain ⟨i1, i2⟩ := upT_texts fs ns leaf y hy
    obtain ⟨g1, g2, g3⟩ := putE_ok hp
    have hup : ∀ q, (q = leaf ∨ ∃ u ∈ y.1, q = prOf (tx u)) → (q = leaf ∨ ∃ u ∈ (y.1 ++ [mk (foldT (putE l (mk n, y.2)).1)]), q = prOf (tx u)) := by
      rintro q (h | ⟨u, hu, h⟩)
      · exact .inl h
      · exact .inr ⟨u, by simp [hu], h⟩
    refine ⟨fun t ht => ?_, .inr ⟨mk (foldT (putE l (mk n, y.2)).1), by simp, rfl⟩⟩
    rcases List.mem_append.1 ht with ht | ht
    · exact (i1 t ht).up hup
    · rw [List.mem_singleton] at ht
      subst ht
      refine ⟨_, g2, rfl, fun e he => ?_⟩
      rw [g3] at he
      rcases (mem_insE (entsV_sorted g1) (mk n, y.2) e).1 he with rfl | ⟨he, _⟩
      · exact .inr ⟨by show n ∈ _; simp, hup _ i2⟩
      · exact .inl ⟨l, by simp, he⟩
theorem dT_texts : ∀ (fs : List (List En)) (ns : List Bs),
    (∀ t ∈ (dT fs ns).1, NewIn fs ns (fun q => ∃ u ∈ (dT fs ns).1, q = prOf (tx u)) t) ∧ (∀ q, (dT fs ns).2 = some q → ∃ u ∈ (dT fs ns).1, q = prOf (tx u))
  | [], ns => by
    have e : dT [] ns = ([], none) := by cases ns <;> rfl
    rw [e]
    exact ⟨fun t ht => by simp at ht, fun q h => by cases h⟩
  | l :: fs, [] => by
    have e : dT (l :: fs) [] = ([], none) := rfl
    rw [e]
    exact ⟨fun t ht => by simp at ht, fun q h => by cases h⟩
  | l :: fs, n :: ns => by
    obtain ⟨i1, i2⟩ := dT_texts fs ns
    rw [dT]
    split
    · exact ⟨fun t ht => (i1 t ht).up fun _ h => h, fun q h => by cases h⟩
    · have hup : ∀ q, (∃ u ∈ (dT fs ns).1, q = prOf (tx u)) → ∃ u ∈ ((dT fs ns).1 ++ [mk (foldT (restD l n (dT fs ns).2))]), q = prOf (tx u) := by
        rintro q ⟨u, hu, h⟩
        exact ⟨u, by simp [hu], h⟩
      refine ⟨fun t ht => ?_, fun q h => ?_⟩
      · rcases List.mem_append.1 ht with ht | ht
        · exact (i1 t ht).up hup
        · rw [List.mem_singleton] at ht
          subst ht
          refine ⟨_, restD_valid _ _ _, rfl, fun e he => ?_⟩
          rcases restD_mem he with he | ⟨h1, h2⟩
          · exact .inl ⟨l, by simp, he⟩
          · exact .inr ⟨by rw [h1, tx_mk]; simp, hup _ (i2 _ h2)⟩
      · injection h with h
        exact ⟨mk (foldT (restD l n (dT fs ns).2)), by simp, h.symm⟩
/-! ### stores that only grow, folders that name what is there -/
def Keep (s s' : List Pc) : Prop := ∀ p t, getT s p = some t → getT s' p = some t
theorem Keep.refl (s : List Pc) : Keep s s := fun _ _ h => h
theorem Keep.trans {a b c : List Pc} (h : Keep a b) (h2 : Keep b c) : Keep a c := fun p t hg => h2 p t (h p t hg)
theorem keep_put {s s' : List Pc} {ts : List ByteArray} (hs : storeV s = true) (h : putAll s ts = some s') : Keep s s' := fun _ _ hg => getT_keep hs h hg
theorem Keep.there {s s' : List Pc} (h : Keep s s') {p : Int} (hp : (getT s p).isSome = true) : (getT s' p).isSome = true := by
  obtain ⟨t, ht⟩ := Option.isSome_iff_exists.1 hp
  rw [h p t ht]; rfl
theorem Keep.gT {s s' : List Pc} (h : Keep s s') {p : Int} (hp : (getT s p).isSome = true) : getT s' p = getT s p := by
  obtain ⟨t, ht⟩ := Option.isSome_iff_exists.1 hp
  rw [h p t ht, ht]
theorem Keep.fo {s s' : List Pc} (h : Keep s s') {p : Int} (hp : (getT s p).isSome = true) : folderOf s' p = folderOf s p := by
  unfold folderOf; rw [h.gT hp]
theorem Keep.fi {s s' : List Pc} (h : Keep s s') {p : Int} (hp : (getT s p).isSome = true) : fileOf s' p = fileOf s p := by
  unfold fileOf; rw [h.gT hp]
theorem folder_there {s : List Pc} {p : Int} {l : List En} (h : folderOf s p = some l) : (getT s p).isSome = true := by
  unfold folderOf at h
  obtain ⟨t, ht, _⟩ := Option.bind_eq_some_iff.1 h
  rw [ht]; rfl
theorem file_there {s : List Pc} {p : Int} (h : (fileOf s p).isSome = true) : (getT s p).isSome = true := by
  unfold fileOf at h
  cases hg : getT s p with
  | none => rw [hg] at h; cases h
  | some t => rfl
theorem Keep.fold {s s' : List Pc} (h : Keep s s') {p : Int} {l : List En} (hf : folderOf s p = some l) : folderOf s' p = some l := by rw [h.fo (folder_there hf), hf]
/-- Each entry of each folder is there, and has a name of a kind. -/
def Good (N : Bs → Prop) (s : List Pc) : Prop := ∀ p l, folderOf s p = some l → ∀ e ∈ l, (getT s e.2).isSome = true ∧ N (tx e.1)
theorem good_nil (N : Bs → Prop) : Good N [] := fun p l h => by cases h
theorem Good.mono {N M : Bs → Prop} {s : List Pc} (h : Good N s) (hm : ∀ n, N n → M n) : Good M s := fun p l hf e he => ⟨(h p l hf e he).1, hm _ (h p l hf e he).2⟩
theorem good_put {N : Bs → Prop} {s s' : List Pc} {ts : List ByteArray} (hs : storeV s = true) (hg : Good N s) (h : putAll s ts = some s')
    (ht : ∀ t ∈ ts, ∀ l, readF (tx t) = some l → ∀ e ∈ l, N (tx e.1) ∧ ((getT s e.2).isSome = true ∨ ∃ u ∈ ts, e.2 = prOf (tx u))) : Good N s' := by
  obtain ⟨h1, h2⟩ := putAll_ok _ _ _ hs h
  have hk := keep_put hs h
  intro p l hf e he
  unfold folderOf at hf
  obtain ⟨t, hp, hr⟩ := Option.bind_eq_some_iff.1 hf
  rcases (h2 _).1 (getT_some hp) with h3 | ⟨u, hu, h3⟩
  · have h4 : folderOf s p = some l := by unfold folderOf; rw [getT_mem (storeV_sorted hs) h3]; exact hr
    exact ⟨hk.there (hg p l h4 e he).1, (hg p l h4 e he).2⟩
  · injection h3 with h5 h6
    subst h6
    obtain ⟨h7, h8⟩ := ht t hu l hr e he
    refine ⟨?_, h7⟩
    rcases h8 with h8 | ⟨v, hv, h8⟩
    · exact hk.there h8
    · rw [h8, getT_put hs h hv]; rfl
theorem newIn_good {N : Bs → Prop} {s : List Pc} {fs : List (List En)} {ns : List Bs} {P : Int → Prop} {ts : List ByteArray} {t : ByteArray} (hg : Good N s) (hfs : ∀ l ∈ fs, l = [] ∨ ∃ p, folderOf s p = some l) (hns : ∀ n ∈ ns, N n)
    (hP : ∀ q, P q → ∃ u ∈ ts, q = prOf (tx u)) (h : NewIn fs ns P t) : ∀ l, readF (tx t) = some l → ∀ e ∈ l, N (tx e.1) ∧ ((getT s e.2).isSome = true ∨ ∃ u ∈ ts, e.2 = prOf (tx u)) := by
  obtain ⟨L, h1, rfl, h3⟩ := h
  intro l hr e he
  rw [tx_mk, readF_foldT h1] at hr
  injection hr with hr
  subst hr
  rcases h3 e he with ⟨m, hm, h4⟩ | ⟨h4, h5⟩
  · rcases hfs m hm with rfl | ⟨p, hp⟩
    · cases h4
    · have := hg p m hp e h4
      exact ⟨this.2, .inl this.1⟩
  · exact ⟨hns _ h4, .inr (hP _ h5)⟩
/-! ### writing -/
theorem writeA_ok {s s' : List Pc} {root r' : Int} {path c : Bs} (h : writeA s root path c = (s', r', true)) : storeV s = true ∧ contV c = true ∧ ∃ n r fs x, pathP path = some (n :: r) ∧ foldsW s (some root) (n :: r) = some fs ∧
    upT fs (n :: r) (prOf (fileT c)) = some x ∧ putAll s (mk (fileT c) :: x.1) = some s' ∧ r' = x.2 := by
  unfold writeA at h
  cases hc : storeV s && contV c
  · rw [hc] at h; simp at h
  · rw [hc, if_pos rfl] at h
    rw [Bool.and_eq_true] at hc
    cases hp : pathP path with
    | none => rw [hp] at h; simp at h
    | some ps =>
      rw [hp] at h
      cases ps with
      | nil => simp at h
      | cons n r =>
        simp only at h
        cases hw : writeP s root (n :: r) c with
        | none => rw [hw] at h; simp at h
        | some x =>
          rw [hw] at h
          simp only [Prod.mk.injEq, and_true] at h
          obtain ⟨rfl, rfl⟩ := h
          unfold writeP at hw
          obtain ⟨fs, h1, hw⟩ := Option.bind_eq_some_iff.1 hw
          obtain ⟨y, h2, hw⟩ := Option.bind_eq_some_iff.1 hw
          obtain ⟨s', h3, hw⟩ := Option.map_eq_some_iff.1 hw
          subst hw
          exact ⟨hc.1, hc.2, n, r, fs, y, rfl, h1, h2, h3, rfl⟩
theorem dropA_ok {s s' : List Pc} {root r' : Int} {path : Bs} (h : dropA s root path = (s', r', true)) : storeV s = true ∧ ∃ n r, pathP path = some (n :: r) ∧
    putAll s (dropTs (dT (foldsD s root (n :: r)) (n :: r))).1 = some s' ∧ r' = (dropTs (dT (foldsD s root (n :: r)) (n :: r))).2 := by
  unfold dropA at h
  cases hc : storeV s
  · rw [hc] at h; simp at h
  · rw [hc, if_pos rfl] at h
    cases hp : pathP path with
    | none => rw [hp] at h; simp at h
    | some ps =>
      rw [hp] at h
      cases ps with
      | nil => simp at h
      | cons n r =>
        simp only at h
        cases hw : dropP s root (n :: r) with
        | none => rw [hw] at h; simp at h
        | some x =>
          rw [hw] at h
          simp only [Prod.mk.injEq, and_true] at h
          obtain ⟨rfl, rfl⟩ := h
          unfold dropP at hw
          split at hw
          · obtain ⟨s', h3, hw⟩ := Option.map_eq_some_iff.1 hw
            subst hw
            exact ⟨rfl, n, r, rfl, h3, rfl⟩
          · cases hw
/-- What a change of a store leaves. -/
structure Chg (s s' : List Pc) (r' : Int) : Prop where
  old : storeV s = true
  valid : storeV s' = true
  keep : Keep s s'
  root : (folderOf s' r').isSome = true
theorem write_chg {s s' : List Pc} {root r' : Int} {path c : Bs} (h : writeA s root path c = (s', r', true)) : Chg s s' r' := by
  obtain ⟨hs, hc, n, r, fs, x, _, hf, hx, hp, rfl⟩ := writeA_ok h
  refine ⟨hs, (putAll_ok _ _ _ hs hp).1, keep_put hs hp, ?_⟩
  obtain ⟨l, fs', _, _, rfl, _⟩ := foldsW_top hf
  obtain ⟨y, _, hpe, rfl⟩ := upT_top hx
  rw [folder_put hs hp (by simp) (putE_ok hpe).2.1]; rfl
theorem drop_chg {s s' : List Pc} {root r' : Int} {path : Bs} (h : dropA s root path = (s', r', true)) : Chg s s' r' := by
  obtain ⟨hs, n, r, _, hp, rfl⟩ := dropA_ok h
  refine ⟨hs, (putAll_ok _ _ _ hs hp).1, keep_put hs hp, ?_⟩
  rw [foldsD] at hp ⊢
  generalize (folderOf s root).getD [] = l at *
  generalize foldsD s _ r = fs at *
  rw [dT] at hp ⊢
  split at hp
  · rename_i h1
    rw [if_pos h1]
    show (folderOf s' (prOf (foldT []))).isSome = true
    have hp : putAll s ((dT fs r).1 ++ [mk (foldT [])]) = some s' := hp
    rw [folder_put hs hp (by simp) entsV_nil]; rfl
  · rename_i h1
    rw [if_neg h1]
    show (folderOf s' (prOf (foldT _))).isSome = true
    have hp : putAll s ((dT fs r).1 ++ [mk (foldT (restD l n (dT fs r).2))]) = some s' := hp
    rw [folder_put hs hp (by simp) (restD_valid _ _ _)]; rfl
theorem write_good {N : Bs → Prop} {s s' : List Pc} {root r' : Int} {path c : Bs} (h : writeA s root path c = (s', r', true)) (hg : Good N s) (hn : ∀ ps, pathP path = some ps → ∀ n ∈ ps, N n) : Good N s' := by
  obtain ⟨hs, hc, n, r, fs, x, hpp, hf, hx, hp, rfl⟩ := writeA_ok h
  refine good_put hs hg hp fun t ht => ?_
  rcases List.mem_cons.1 ht with rfl | ht
  · intro l hr
    have h0 : readF (tx (mk (fileT c))) = none := readF_file (by rw [tx_mk, readFi_fileT hc]; rfl)
    rw [h0] at hr; cases hr
  · refine newIn_good hg (foldsW_mem _ _ _ hf) (hn _ hpp) ?_ ((upT_texts _ _ _ _ hx).1 t ht)
    rintro q (rfl | ⟨u, hu, rfl⟩)
    · exact ⟨mk (fileT c), by simp, rfl⟩
    · exact ⟨u, by simp [hu], rfl⟩
theorem drop_good {N : Bs → Prop} {s s' : List Pc} {root r' : Int} {path : Bs} (h : dropA s root path = (s', r', true)) (hg : Good N s) (hn : ∀ ps, pathP path = some ps → ∀ n ∈ ps, N n) : Good N s' := by
  obtain ⟨hs, n, r, hpp, hp, rfl⟩ := dropA_ok h
  obtain ⟨h1, h2⟩ := dT_texts (foldsD s root (n :: r)) (n :: r)
  have hfs := foldsD_mem (s := s) (n :: r) root
  generalize dT (foldsD s root (n :: r)) (n :: r) = X at *
  generalize foldsD s root (n :: r) = fs at *
  refine good_put hs hg hp fun t ht => ?_
  obtain ⟨X1, o⟩ := X
  cases o with
  | some p =>
    exact newIn_good hg hfs (hn _ hpp) (fun q hq => hq) (h1 t ht)
  | none =>
    have ht : t ∈ X1 ++ [mk (foldT [])] := ht
    rcases List.mem_append.1 ht with ht | ht
    · refine newIn_good hg hfs (hn _ hpp) (fun q hq => ?_) (h1 t ht)
      obtain ⟨u, hu, hq⟩ := hq
      exact ⟨u, List.mem_append.2 (.inl hu), hq⟩
    · rw [List.mem_singleton] at ht
      subst ht
      intro l hr e he
      rw [tx_mk, readF_foldT entsV_nil] at hr
      injection hr with hr
      subst hr; cases he
end Go.Proofs.YtokelopllbaikaaGreatDoor

/- Lines of archives: what stays, what is read back. Plain Lean, no program in sight. -/
set_option linter.unusedVariables false
namespace Go.Proofs.YtokelopllbaikaaGreatDoor
theorem archV_iff {a : Ar} : archV a = true ↔ storeV a.ps = true ∧ versV a.vs = true ∧ (folderOf a.ps a.op).isSome = true ∧ ∀ v ∈ a.vs, (folderOf a.ps v.1).isSome = true := by
  unfold archV
  simp only [Bool.and_eq_true, List.all_eq_true]
/-! ### paths of files -/
theorem filesP_mem {s : List Pc} : ∀ (f : Nat) (p : Int) (ps : List Bs), (∀ q ∈ ps, wordV q = true) → ps.length + f ≤ 3 → ∀ x ∈ filesP s f p ps,
    ∃ qs q, qs ≠ [] ∧ partsV (ps ++ qs) = true ∧ x = joinP (ps ++ qs) ∧ walkP s p qs = some q ∧ (fileOf s q).isSome = true
  | 0, _, _, _, _, x, hx => by cases hx
  | f + 1, p, ps, hw, hl, x, hx => by
    rw [filesP_succ] at hx
    obtain ⟨e, he, hx⟩ := List.mem_flatMap.1 hx
    cases hf : folderOf s p with
    | none => rw [hf] at he; cases he
    | some l =>
      rw [hf, Option.getD_some] at he
      have hv := folder_valid hf
      have hg : getE l (tx e.1) = some e.2 := getE_mem (entsV_sorted hv) (show (mk (tx e.1), e.2) ∈ l by rw [mk_tx]; exact he)
      have hwe := (entOk_iff.1 (entsV_ok hv he)).1
      have hw2 : ∀ q ∈ ps ++ [tx e.1], wordV q = true := fun q hq => by
        rw [List.mem_append, List.mem_singleton] at hq
        rcases hq with hq | rfl
        · exact hw q hq
        · exact hwe
      unfold stepF at hx
      split at hx
      · rename_i hfi
        rw [List.mem_singleton] at hx
        refine ⟨[tx e.1], e.2, by simp, partsV_iff.2 ⟨by simp; omega, hw2⟩, hx, ?_, hfi⟩
        rw [walkP, hf, Option.bind_some, hg, Option.bind_some, walkP, if_pos (file_there hfi)]
      · obtain ⟨qs, q, h1, h2, h3, h4, h5⟩ := filesP_mem f e.2 (ps ++ [tx e.1]) hw2 (by simp; omega) x hx
        rw [List.append_assoc] at h2 h3
        refine ⟨tx e.1 :: qs, q, by simp, h2, h3, ?_, h5⟩
        rw [walkP, hf, Option.bind_some, hg, Option.bind_some]; exact h4
theorem allF_mem {s : List Pc} {root : Int} {x : Bs} (hx : x ∈ allF s root) : storeV s = true ∧ ∃ qs q, qs ≠ [] ∧ partsV qs = true ∧ x = joinP qs ∧ walkP s root qs = some q ∧ (fileOf s q).isSome = true := by
  unfold allF at hx
  split at hx
  · rename_i hs
    obtain ⟨qs, q, h1, h2, h3, h4, h5⟩ := filesP_mem 3 root [] (by simp) (by simp) x hx
    exact ⟨hs, qs, q, h1, by simpa using h2, by simpa using h3, h4, h5⟩
  · cases hx
theorem allF_path {s : List Pc} {root : Int} {x : Bs} (hx : x ∈ allF s root) : (pathP x).isSome = true := by
  obtain ⟨_, qs, q, _, h2, rfl, _⟩ := allF_mem hx
  rw [pathP_of h2]; rfl
/-! ### a line -/
/-! ### written words are read -/
/-! ### kept versions can be opened again -/
theorem flatMap_congr' {α β : Type} {f g : α → List β} : ∀ {l : List α}, (∀ x ∈ l, f x = g x) → l.flatMap f = l.flatMap g
  | [], _ => rfl
  | x :: r, h => by rw [List.flatMap_cons, List.flatMap_cons, h x (by simp), flatMap_congr' fun y hy => h y (by simp [hy])]
theorem filesP_keep {N : Bs → Prop} {s s' : List Pc} (hg : Good N s) (hk : Keep s s') : ∀ (f : Nat) (p : Int) (ps : List Bs), (getT s p).isSome = true → filesP s' f p ps = filesP s f p ps
  | 0, _, _, _ => rfl
  | f + 1, p, ps, h => by
    rw [filesP_succ, filesP_succ, hk.fo h]
    cases hf : folderOf s p with
    | none => rfl
    | some l =>
      rw [Option.getD_some]
      refine flatMap_congr' fun e he => ?_
      have h2 := (hg p l hf e he).1
      unfold stepF
      rw [hk.fi h2, filesP_keep hg hk f e.2 _ h2]
/-! ### lines follow each other -/
/-! ### new archives, open roots -/
theorem newA_ok {s : List Pc} (h : (newA s).2 = true) : archV (newA s).1 = true ∧ (newA s).1.vs = [] ∧ allF (newA s).1.ps (newA s).1.op = [] := by
  unfold newA at *
  split at h
  · rename_i hp
    rw [if_pos hp]
    obtain ⟨h1, h2, h3⟩ := putT_ok hp
    have hpa : putAll s [mk (foldT [])] = some (putT s (mk (foldT []))).1 := by rw [putAll_one, if_pos hp]
    have hfo := folder_put h1 hpa (l := []) (by simp) entsV_nil
    have hop : (putT s (mk (foldT []))).2.1 = prOf (foldT []) := h3
    refine ⟨archV_iff.2 ⟨h2.valid, rfl, ?_, by simp⟩, rfl, ?_⟩
    · show (folderOf (putT s (mk (foldT []))).1 (putT s (mk (foldT []))).2.1).isSome = true
      rw [hop, hfo]; rfl
    · show allF (putT s (mk (foldT []))).1 (putT s (mk (foldT []))).2.1 = []
      unfold allF
      rw [if_pos h2.valid, hop, filesP_succ, hfo]; rfl
  · cases h
theorem newA_good {N : Bs → Prop} {s : List Pc} (hg : Good N s) : Good N (newA s).1.ps := by
  unfold newA
  split
  · rename_i hp
    have hpa : putAll s [mk (foldT [])] = some (putT s (mk (foldT []))).1 := by rw [putAll_one, if_pos hp]
    refine good_put (putT_ok hp).1 hg hpa fun t ht l hr e he => ?_
    rw [List.mem_singleton] at ht
    subst ht
    rw [tx_mk, readF_foldT entsV_nil] at hr
    injection hr with hr
    subst hr; cases he
  · exact good_nil N
end Go.Proofs.YtokelopllbaikaaGreatDoor

/- JoinPath of the reference, walked. -/
set_option linter.unusedVariables false
namespace Go.Proofs.YtokelopllbaikaaGreatDoor
open Go.RowKit
def accJ (l : List ByteArray) (k : Nat) : ByteArray := mk (joinB ((l.take k).map bs))
theorem joinB_snoc (a : List Bs) (p : Bs) : joinB (a ++ [p]) = joinB a ++ 47 :: p := by unfold joinB; simp
theorem accJ_zero (l : List ByteArray) : accJ l 0 = ⟨#[]⟩ := by simp [accJ, joinB, mk]
theorem accJ_succ {l : List ByteArray} {k : Nat} (h : k < l.length) : accJ l k ++ ⟨#[47]⟩ ++ l[k] = accJ l (k + 1) := by
  unfold accJ
  rw [← List.take_append_getElem h, List.map_append, List.map_singleton, joinB_snoc]
  have e : (⟨#[47]⟩ : ByteArray) = mk [47] := rfl
  rw [e, mk_append]
  conv => lhs; rhs; rw [← mk_bs l[k]]
  rw [mk_append, List.append_assoc]; rfl
theorem accJ_len {l : List ByteArray} {k : Nat} (hk : k ≤ l.length) : (accJ l k).size = 0 ↔ k = 0 := by
  unfold accJ
  rw [mk_size]
  cases k with
  | zero => simp [joinB]
  | succ k =>
    cases l with
    | nil => simp at hk
    | cons p r => simp [joinB]
theorem word_size {p : ByteArray} (h : wordV (bs p) = true) : p.size ≤ 8 := by
  unfold wordV at h
  rw [Bool.and_eq_true, Bool.and_eq_true, decide_eq_true_eq] at h
  have := h.1.1.2
  rw [size_bs] at this; exact this
theorem joinP_long {l : List ByteArray} (h : 3 < l.length) : joinP (l.map bs) = [] := by
  unfold joinP
  rw [if_neg]
  rw [partsV_iff]; simp; omega
theorem joinP_bad {l : List ByteArray} {k : Nat} (hk : k < l.length) (h : wordV (bs l[k]) = false) : joinP (l.map bs) = [] := by
  unfold joinP
  rw [if_neg]
  rw [partsV_iff]
  intro hh
  have := hh.2 (bs l[k]) (List.mem_map.2 ⟨_, List.getElem_mem hk, rfl⟩)
  rw [h] at this; cases this
theorem joinP_good {l : List ByteArray} (h3 : l.length ≤ 3) (h : ∀ j (hj : j < l.length), wordV (bs l[j]) = true) : partsV (l.map bs) = true := by
  rw [partsV_iff]
  refine ⟨by simpa using h3, fun p hp => ?_⟩
  obtain ⟨q, hq, rfl⟩ := List.mem_map.1 hp
  obtain ⟨i, hi, rfl⟩ := List.getElem_of_mem hq
  exact h i hi
theorem joinP_end {l : List ByteArray} (h3 : l.length ≤ 3) (h : ∀ j (hj : j < l.length), wordV (bs l[j]) = true) (hne : 0 < l.length) : mk (joinP (l.map bs)) = accJ l l.length := by
  unfold joinP accJ
  rw [joinP_good h3 h, if_pos rfl, if_neg, List.take_length]
  intro e; rw [List.map_eq_nil_iff] at e; subst e; simp at hne
set_option maxHeartbeats 2000000 in
set_option maxRecDepth 100000 in
theorem sJoinPath_any (A : Option Addr) (c : Nat) (l : List ByteArray) (w : World) (hs : Sl w encS 1 A l) (hl : l.length ≤ 16777216) (hf : ∀ p ∈ l, p.size ≤ 16777216) :
    Calls Tryz.prog 61 #[.slice A l.length c] w fun e w' => e = .returned (.string (mk (joinP (l.map bs)))) ∧ w = w' := by
  have HS := Lib.hid hs
  have HF := Lib.hid hf
  clear hs hf
  by_cases h3 : 3 < l.length
  · have E := Lib.hid (joinP_long h3)
    rw [E.out, mk_nil]
    have h3' : (3 : Int) < (l.length : Int) := by omega
    go_enter Tryz.func61, Tryz.ntmps61
    go_wp2
    go_loop [3, 4] (fun o i => ∃ k : Nat, k < l.length ∧ o = .string ⟨#[]⟩ ∧ i = .int .i64 k) (fun _ _ => 0)
    case atStart => exact ⟨0, by omega, rfl, rfl⟩
    case round =>
      obtain ⟨k, hk, rfl, rfl⟩ := hrel
      obtain ⟨b, o, rfl, hc⟩ := HS.out.getS hk
      have hz := HF.out _ (List.getElem_mem hk)
      generalize l[k] = p at *
      have hW := fun w => sWordValid_any p w hz
      cases hw : wordV (bs p)
      all_goals
        rw [hw] at hW
        have HW := Lib.hid hW
        clear hW hw
        go_wp2_with (go_at_call 84; refine (HW.out _).mono ?_; rintro e w' ⟨rfl, rfl⟩)
        go_ret
        exact ⟨rfl, rfl⟩
  · have h3b : ¬ (3 : Int) < (l.length : Int) := by omega
    have HB := Lib.hid (fun k (hk : k < l.length) h => @joinP_bad l k hk h)
    have HE := Lib.hid (@joinP_end l (by omega))
    generalize hJ : mk (joinP (l.map bs)) = J at *
    have HJ := Lib.hid hJ
    clear hJ
    go_enter Tryz.func61, Tryz.ntmps61
    go_wp2
    go_loop [3, 4] (fun o i => ∃ (k : Nat) (acc : ByteArray), k ≤ l.length ∧ i = .int .i64 k ∧ o = .string acc ∧ acc.size ≤ 9 * k ∧ Hid (acc = accJ l k) ∧ Hid (∀ j (h : j < l.length), j < k → wordV (bs l[j]) = true)) (fun _ i => l.length - (intOf i).toNat)
    case atStart => exact ⟨0, _, Nat.zero_le _, rfl, rfl, by simp [ByteArray.size], (accJ_zero l).symm, fun j h h2 => by omega⟩
    case round =>
      obtain ⟨k, acc, hk, rfl, rfl, hz, HA, HH⟩ := hrel
      by_cases hlt : k < l.length
      · have hst := accJ_succ hlt
        rw [← HA.out] at hst
        obtain ⟨b, o, rfl, hc⟩ := HS.out.getS hlt
        have hzp := HF.out _ (List.getElem_mem hlt)
        have HBk := Lib.hid (fun h => HB.out k hlt h)
        have HSTk := Lib.hid (fun (h : wordV (bs l[k]) = true) => show ∀ j (hj : j < l.length), j < k + 1 → wordV (bs l[j]) = true from fun j hj h2 => by
          by_cases e : j = k
          · subst e; exact h
          · exact HH.out j hj (by omega))
        generalize l[k] = p at *
        have hW := fun w => sWordValid_any p w hzp
        cases hw : wordV (bs p)
        · have HN := Lib.hid (show J = ⟨#[]⟩ by rw [← HJ.out, HBk.out hw]; rfl)
          rw [hw] at hW
          have HW := Lib.hid hW
          clear hW hw hst HSTk HBk
          go_wp2_with (go_at_call 84; refine (HW.out _).mono ?_; rintro e w' ⟨rfl, rfl⟩)
          go_ret
          rw [HN.out]
          exact ⟨rfl, rfl⟩
        · have HN := Lib.hid (HSTk.out hw)
          have hps := word_size hw
          rw [hw] at hW
          have HW := Lib.hid hW
          have HST := Lib.hid hst
          have hq1 : (acc ++ ⟨#[47]⟩).size ≤ 9 * k + 1 := by rw [ByteArray.size_append]; have : (⟨#[47]⟩ : ByteArray).size = 1 := rfl; omega
          have hq2 : (acc ++ ⟨#[47]⟩ ++ p).size ≤ 9 * (k + 1) := by rw [ByteArray.size_append]; omega
          clear hW hw hst HSTk HBk
          go_wp2_with (go_at_call 84; refine (HW.out _).mono ?_; rintro e w' ⟨rfl, rfl⟩)
          go_round
          case rel => exact ⟨k + 1, _, by omega, by go_num, rfl, hq2, HST.out, HN.out⟩
          case measure => simp [intOf]; omega
      · have e : k = l.length := by omega
        have hsz := (accJ_len (l := l) hk)
        rw [← HA.out] at hsz
        by_cases h0 : l.length = 0
        · have hnil : l = [] := List.length_eq_zero_iff.1 h0
          have hacc : acc = ⟨#[]⟩ := by rw [HA.out, e, h0, accJ_zero]
          subst hacc
          have HN := Lib.hid (show J = ⟨#[47]⟩ by rw [← HJ.out, hnil]; rfl)
          clear hsz e hnil
          go_wp2
          go_ret
          rw [HN.out]
          exact ⟨rfl, rfl⟩
        · obtain ⟨hne, hne2⟩ := ne_tl (s := acc) (by have := fun h => h0 (by have := hsz.1 h; omega); omega)
          have HN := Lib.hid (show J = acc by rw [HE.out (fun j hj => HH.out j hj (by omega)) (by omega), HA.out, e])
          clear hsz e
          go_wp2
          go_ret
          rw [HN.out]
          exact ⟨rfl, rfl⟩
end Go.Proofs.YtokelopllbaikaaGreatDoor

/- strings.Cut at a byte. -/
set_option linter.unusedVariables false
namespace Go.Proofs.YtokelopllbaikaaGreatDoor
open Go.RowKit
def headC (c : UInt8) (s : Bs) : Bs := s.takeWhile fun x => x != c
def cutC (c : UInt8) (s : Bs) : Option (Bs × Bs) := if (headC c s).length < s.length then some (headC c s, s.drop ((headC c s).length + 1)) else none
theorem headC_le (c : UInt8) (s : Bs) : (headC c s).length ≤ s.length := (List.takeWhile_sublist _).length_le
theorem headC_cons (c x : UInt8) (r : Bs) : headC c (x :: r) = if x = c then [] else x :: headC c r := by
  unfold headC; rw [List.takeWhile_cons]
  by_cases h : x = c <;> simp [h]
theorem headC_take (c : UInt8) : ∀ s : Bs, headC c s = s.take (headC c s).length
  | [] => rfl
  | x :: r => by
    rw [headC_cons]
    split
    · rfl
    · rw [List.length_cons, List.take_succ_cons, ← headC_take c r]
theorem headC_ne (c : UInt8) : ∀ (s : Bs) (j : Nat) (h : j < s.length), j < (headC c s).length → s[j] ≠ c
  | [], j, h, _ => by simp at h
  | x :: r, j, h, hj => by
    rw [headC_cons] at hj
    split at hj
    · simp at hj
    · rename_i hx
      cases j with
      | zero => simpa using hx
      | succ j => simpa using headC_ne c r j (by simpa using h) (by simpa using hj)
theorem headC_at (c : UInt8) : ∀ (s : Bs) (h : (headC c s).length < s.length), s[(headC c s).length] = c
  | [], h => by simp at h
  | x :: r, h => by
    by_cases hx : x = c
    · have e : headC c (x :: r) = [] := by rw [headC_cons, if_pos hx]
      simp only [e, List.length_nil, List.getElem_cons_zero]; exact hx
    · have e : headC c (x :: r) = x :: headC c r := by rw [headC_cons, if_neg hx]
      have h' : (headC c r).length < r.length := by rw [e] at h; simpa using h
      have := headC_at c r h'
      simp only [e, List.length_cons, List.getElem_cons_succ]; exact this
theorem idx_head (c : UInt8) : ∀ s : Bs, Lib.indexByte s c = if (headC c s).length < s.length then ((headC c s).length : Int) else -1
  | [] => rfl
  | x :: r => by
    unfold Lib.indexByte headC
    rw [List.takeWhile_cons]
    by_cases h : x = c
    · subst h; simp
    · have ih := idx_head c r
      have h1 : (x == c) = false := beq_eq_false_iff_ne.2 h
      have h2 : (x != c) = true := by simp [h]
      unfold headC at ih
      rw [h1, h2, ih]
      simp only [Bool.false_eq_true, if_false, if_true, List.length_cons, Nat.add_lt_add_iff_right]
      split
      · have e : ((((r.takeWhile fun x => x != c).length : Nat) : Int) == -1) = false := by rw [beq_eq_false_iff_ne]; omega
        rw [e]; simp
      · simp
theorem cut_at (c : UInt8) (s : Bs) : Lib.cut s [c] = match cutC c s with | some (a, b) => (a, b, true) | none => (s, [], false) := by
  unfold Lib.cut cutC
  rw [Lib.index_one, idx_head]
  split
  · rename_i h
    rw [if_pos (by omega)]
    simp only [Int.toNat_natCast, List.length_singleton]
    rw [← headC_take]
  · rw [if_neg (by omega)]
def cutV (c : UInt8) (s : ByteArray) : Value := match cutC c (bs s) with | some (a, b) => .tuple #[.string (mk a), .string (mk b), .bool true] | none => .tuple #[.string s, .string ⟨#[]⟩, .bool false]
theorem cutC_some {c : UInt8} {s a b : Bs} (h : cutC c s = some (a, b)) : s = a ++ c :: b ∧ a = headC c s := by
  unfold cutC at h
  split at h
  · rename_i hlt
    injection h with h; injection h with h1 h2
    have h3 := headC_at c s hlt
    refine ⟨?_, h1.symm⟩
    rw [← h1, ← h2]
    conv => lhs; rw [← List.take_append_drop (headC c s).length s, ← headC_take, List.drop_eq_getElem_cons hlt, h3]
  · cases h
theorem cutC_len {c : UInt8} {s : ByteArray} {a b : Bs} (h : cutC c (bs s) = some (a, b)) : a.length + b.length + 1 = s.size := by
  have h1 := (cutC_some h).1
  have h2 := size_bs s
  rw [h1, List.length_append, List.length_cons] at h2; omega
theorem Cut_any (s : ByteArray) (c : UInt8) (w : World) (hs : s.size ≤ 16777216) (hm : MaxL w) :
    Calls Tryz.prog 94 #[.string s, .string ⟨#[c]⟩] w fun e w' => e = .returned (cutV c s) ∧ Below w.heap.size w w' := by
  obtain ⟨m, hm⟩ := hm
  refine (Tryz.strings_Cut s ⟨#[c]⟩ m w (by omega) hm).mono fun e w' ⟨h1, n, h2⟩ => ?_
  have e2 : Lib.cut s.data.toList (⟨#[c]⟩ : ByteArray).data.toList = Lib.cut (bs s) [c] := rfl
  rw [e2, cut_at] at h1
  refine ⟨?_, by rw [h2]; exact Below_drewN (Below.refl _ _) n⟩
  rw [h1]
  unfold cutV
  cases cutC c (bs s) with
  | none =>
    rw [show (⟨(bs s).toArray⟩ : ByteArray) = s from mk_bs s]
  | some x => rfl
end Go.Proofs.YtokelopllbaikaaGreatDoor

/- One more version, of the program. -/
set_option linter.unusedVariables false
namespace Go.Proofs.YtokelopllbaikaaGreatDoor
open Go.RowKit

theorem RowAt.below {w w' : World} {g : Nat} {y : Vr} (h : RowAt w g y) (hb : Below w.heap.size w w') : RowAt w' g y := ⟨Below_cells hb _ _ _ h.1, Below_cells hb _ _ _ h.2.1, Below_cells hb _ _ _ h.2.2⟩
end Go.Proofs.YtokelopllbaikaaGreatDoor
