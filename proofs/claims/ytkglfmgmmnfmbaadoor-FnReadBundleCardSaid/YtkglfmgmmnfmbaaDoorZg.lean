/- Which prints a drawn store has: its folders are of few kinds. Plain Lean, no program in sight. -/
import Derived.Test.YtkglfmgmmnfmbaaDoorGb7
import Derived.Test.YtkglfmgmmnfmbaaDoorS3
set_option linter.unusedVariables false
namespace Go.Proofs.YtkglfmgmmnfmbaaDoor
/-! ### kinds of folders: 0 the root, 1 and 2 what is at /a and /b, 3 and 4 what is at /a/b and /b/b -/
def kidsK (loc : Nat) : List (Bs × Nat) :=
  if loc = 0 then [([97], 1), ([98], 2), ([99], 5)] else if loc = 1 then [([98], 3)] else if loc = 2 then [([97], 5), ([98], 4)] else if loc = 3 then [([99], 5)] else if loc = 4 then [([97], 5)] else []
def depK (loc : Nat) : Nat := if loc = 0 then 3 else if loc = 1 then 2 else if loc = 2 then 2 else if loc = 3 then 1 else if loc = 4 then 1 else 0
def fileK : List Int := conts4.map fun c => prOf (fileT c)
def OkAt (s : List Pc) : Nat → Nat → Int → Prop
  | 0, _, _ => False
  | f + 1, loc, p => ∃ l, folderOf s p = some l ∧ ∀ e ∈ l, ∃ k, (tx e.1, k) ∈ kidsK loc ∧ ((e.2 ∈ fileK ∧ (fileOf s e.2).isSome = true) ∨ (k < 5 ∧ OkAt s f k e.2))
theorem keep_folder {s s' : List Pc} (h : Keep s s') {p : Int} {l : List En} (hf : folderOf s p = some l) : folderOf s' p = some l := by
  unfold folderOf at hf ⊢
  obtain ⟨t, h1, h2⟩ := Option.bind_eq_some_iff.1 hf
  rw [h _ _ h1]; exact h2
theorem keep_file {s s' : List Pc} (h : Keep s s') {p : Int} (hf : (fileOf s p).isSome = true) : (fileOf s' p).isSome = true := by
  obtain ⟨c, hc⟩ := Option.isSome_iff_exists.1 hf
  unfold fileOf at hc ⊢
  obtain ⟨t, h1, h2⟩ := Option.bind_eq_some_iff.1 hc
  rw [h _ _ h1, Option.bind_some, h2]; rfl
theorem OkAt.keep {s s' : List Pc} (h : Keep s s') : ∀ {f loc : Nat} {p : Int}, OkAt s f loc p → OkAt s' f loc p
  | 0, _, _, ho => ho.elim
  | f + 1, loc, p, ho => by
    obtain ⟨l, hf, hl⟩ := ho
    refine ⟨l, keep_folder h hf, fun e he => ?_⟩
    obtain ⟨k, hk, h2⟩ := hl e he
    refine ⟨k, hk, ?_⟩
    rcases h2 with ⟨h3, h4⟩ | ⟨h3, h4⟩
    · exact .inl ⟨h3, keep_file h h4⟩
    · exact .inr ⟨h3, h4.keep h⟩
theorem kids_dep {loc k : Nat} {n : Bs} (h : (n, k) ∈ kidsK loc) : loc < 5 ∧ (k < 5 → depK loc = depK k + 1) ∧ 0 < depK loc := by
  unfold kidsK at h
  split at h
  · rename_i e; subst e
    simp at h
    rcases h with ⟨_, rfl⟩ | ⟨_, rfl⟩ | ⟨_, rfl⟩ <;> decide
  · split at h
    · rename_i _ e; subst e
      simp at h; rcases h with ⟨_, rfl⟩; decide
    · split at h
      · rename_i _ _ e; subst e
        simp at h; rcases h with ⟨_, rfl⟩ | ⟨_, rfl⟩ <;> decide
      · split at h
        · rename_i _ _ _ e; subst e
          simp at h; rcases h with ⟨_, rfl⟩; decide
        · split at h
          · rename_i _ _ _ _ e; subst e
            simp at h; rcases h with ⟨_, rfl⟩; decide
          · cases h
theorem kids_sorted (loc : Nat) : (kidsK loc).Pairwise fun a b => lessB a.1 b.1 = true := by
  unfold kidsK
  split
  · decide
  · split
    · decide
    · split
      · decide
      · split
        · decide
        · split
          · decide
          · exact List.Pairwise.nil
theorem kids_fun {loc k k' : Nat} {n : Bs} (h : (n, k) ∈ kidsK loc) (h' : (n, k') ∈ kidsK loc) : k = k' := by
  have hp := List.pairwise_iff_getElem.1 (kids_sorted loc)
  obtain ⟨i, hi, e1⟩ := List.getElem_of_mem h
  obtain ⟨j, hj, e2⟩ := List.getElem_of_mem h'
  rcases Nat.lt_trichotomy i j with hlt | rfl | hlt
  · have := hp i j hi hj hlt
    rw [e1, e2, lessB_irrefl] at this; cases this
  · rw [e1] at e2; exact congrArg Prod.snd e2
  · have := hp j i hj hi hlt
    rw [e1, e2, lessB_irrefl] at this; cases this
/-- A way that a path goes. -/
def okP : Nat → List Bs → Prop
  | _, [] => True
  | loc, n :: r => ∃ k, (n, k) ∈ kidsK loc ∧ (r = [] ∨ k < 5) ∧ okP k r
theorem OkAt.of_list {s' : List Pc} {loc : Nat} {L : List En} (hloc : 0 < depK loc) (hv : entsV L = true) (ht : getT s' (prOf (foldT L)) = some (mk (foldT L)))
    (h : ∀ e ∈ L, ∃ k, (tx e.1, k) ∈ kidsK loc ∧ ((e.2 ∈ fileK ∧ (fileOf s' e.2).isSome = true) ∨ (k < 5 ∧ OkAt s' (depK loc - 1) k e.2))) : OkAt s' (depK loc) loc (prOf (foldT L)) := by
  obtain ⟨d, hd⟩ : ∃ d, depK loc = d + 1 := ⟨depK loc - 1, by omega⟩
  rw [hd] at h ⊢
  refine ⟨L, ?_, h⟩
  unfold folderOf
  rw [ht, Option.bind_some]
  exact readF_foldT hv
theorem OkAt.list {s : List Pc} {loc : Nat} {p : Int} (h : OkAt s (depK loc) loc p) : ∃ l, folderOf s p = some l ∧ ∀ e ∈ l, ∃ k, (tx e.1, k) ∈ kidsK loc ∧ ((e.2 ∈ fileK ∧ (fileOf s e.2).isSome = true) ∨ (k < 5 ∧ OkAt s (depK loc - 1) k e.2)) := by
  cases hd : depK loc with
  | zero => rw [hd] at h; exact h.elim
  | succ d => rw [hd] at h; exact h
theorem not_both {s : List Pc} {p : Int} (h : (fileOf s p).isSome = true) : folderOf s p = none := by
  obtain ⟨c, hc⟩ := Option.isSome_iff_exists.1 h
  unfold fileOf at hc
  obtain ⟨t, h1, h2⟩ := Option.bind_eq_some_iff.1 hc
  unfold folderOf
  rw [h1, Option.bind_some]
  cases hr : readF (tx t) with
  | none => rfl
  | some l =>
    have e1 := (readFi_iff.1 h2).1
    have e2 := (readF_iff.1 hr).2
    rw [e1] at e2
    unfold foldB at e2
    injection e2 with e2 _
    exact absurd e2 (by decide)
/-- What is put is of a kind. -/
def PutK (s' : List Pc) (ts : List ByteArray) : Prop := ∀ t ∈ ts, ∃ loc, loc < 5 ∧ OkAt s' (depK loc) loc (prOf (tx t))
theorem up_okK {s s' : List Pc} (hk : Keep s s') {leaf : Int} (hlf : leaf ∈ fileK) (hlf2 : (fileOf s' leaf).isSome = true) : ∀ (ps : List Bs) (loc : Nat) (a : Option Int) (fs : List (List En)) (x : List ByteArray × Int), ps ≠ [] → okP loc ps →
    (∀ p, a = some p → OkAt s (depK loc) loc p) → foldsW s a ps = some fs → upT fs ps leaf = some x → (∀ t ∈ x.1, getT s' (prOf (tx t)) = some t) → OkAt s' (depK loc) loc x.2 ∧ PutK s' x.1
  | [], _, _, _, _, h, _, _, _, _, _ => absurd rfl h
  | n :: r, loc, a, fs, x, _, hp, ha, hf, hx, ht => by
    obtain ⟨k, hkn, hkr, hpr⟩ := hp
    obtain ⟨h5, hdk, hd0⟩ := kids_dep hkn
    obtain ⟨l, fs', hl, hf', rfl, _⟩ := foldsW_top hf
    obtain ⟨y, hy, hpe, rfl⟩ := upT_top hx
    obtain ⟨g1, g2, g3⟩ := putE_ok hpe
    have hold : ∀ e ∈ l, ∃ k, (tx e.1, k) ∈ kidsK loc ∧ ((e.2 ∈ fileK ∧ (fileOf s e.2).isSome = true) ∨ (k < 5 ∧ OkAt s (depK loc - 1) k e.2)) := by
      cases a with
      | none => have hl : some [] = some l := hl; injection hl with hl; subst hl; simp
      | some p =>
        obtain ⟨l2, h1, h2⟩ := (ha p rfl).list
        have hl : folderOf s p = some l := hl
        rw [hl] at h1; injection h1 with h1; subst h1
        exact h2
    have hnew : (y.2 ∈ fileK ∧ (fileOf s' y.2).isSome = true) ∨ (k < 5 ∧ OkAt s' (depK loc - 1) k y.2) := by
      cases r with
      | nil =>
        have e : fs' = [] := by rw [foldsW] at hf'; injection hf' with e; exact e.symm
        subst e
        have e2 : y = ([], leaf) := by
          have : upT [] [] leaf = some ([], leaf) := rfl
          rw [this] at hy; injection hy with hy; exact hy.symm
        rw [e2]; exact .inl ⟨hlf, hlf2⟩
      | cons m r =>
        rcases hkr with h | hk5
        · cases h
        refine .inr ⟨hk5, ?_⟩
        have := (up_okK hk hlf hlf2 (m :: r) k (getE l n) fs' y (by simp) hpr (fun q hq => ?_) hf' hy (fun t h => ht t (by simp [h]))).1
        · rw [hdk hk5, Nat.add_sub_cancel]; exact this
        · obtain ⟨k2, h1, h2⟩ := hold _ (getE_some hq)
          have h1 : (n, k2) ∈ kidsK loc := h1
          obtain rfl := kids_fun hkn h1
          rcases h2 with ⟨_, h3⟩ | ⟨_, h3⟩
          · exfalso
            obtain ⟨l3, _, h4, _⟩ := foldsW_top hf'
            rw [hq] at h4
            have h4 : folderOf s q = some l3 := h4
            rw [not_both h3] at h4; cases h4
          · rw [hdk hk5, Nat.add_sub_cancel] at h3; exact h3
    have hroot : OkAt s' (depK loc) loc (prOf (foldT (putE l (mk n, y.2)).1)) := by
      refine OkAt.of_list hd0 g2 (ht (mk (foldT (putE l (mk n, y.2)).1)) (by simp)) fun e he => ?_
      rw [g3] at he
      rcases (mem_insE (entsV_sorted g1) (mk n, y.2) e).1 he with rfl | ⟨h3, _⟩
      · exact ⟨k, hkn, hnew⟩
      · obtain ⟨k2, h1, h2⟩ := hold e h3
        refine ⟨k2, h1, ?_⟩
        rcases h2 with ⟨h4, h6⟩ | ⟨h4, h6⟩
        · exact .inl ⟨h4, keep_file hk h6⟩
        · exact .inr ⟨h4, h6.keep hk⟩
    refine ⟨hroot, fun t h => ?_⟩
    rcases List.mem_append.1 h with h | h
    · cases r with
      | nil =>
        have e : fs' = [] := by rw [foldsW] at hf'; injection hf' with e; exact e.symm
        subst e
        have e2 : y = ([], leaf) := by
          have : upT [] [] leaf = some ([], leaf) := rfl
          rw [this] at hy; injection hy with hy; exact hy.symm
        rw [e2] at h; cases h
      | cons m r =>
        rcases hkr with h2 | hk5
        · cases h2
        refine (up_okK hk hlf hlf2 (m :: r) k (getE l n) fs' y (by simp) hpr (fun q hq => ?_) hf' hy (fun t h => ht t (by simp [h]))).2 t h
        obtain ⟨k2, h1, h2⟩ := hold _ (getE_some hq)
        have h1 : (n, k2) ∈ kidsK loc := h1
        obtain rfl := kids_fun hkn h1
        rcases h2 with ⟨_, h3⟩ | ⟨_, h3⟩
        · exfalso
          obtain ⟨l3, _, h4, _⟩ := foldsW_top hf'
          rw [hq] at h4
          have h4 : folderOf s q = some l3 := h4
          rw [not_both h3] at h4; cases h4
        · rw [hdk hk5, Nat.add_sub_cancel] at h3; exact h3
    · rw [List.mem_singleton] at h
      subst h
      exact ⟨loc, h5, hroot⟩
theorem down_okK {s s' : List Pc} (hk : Keep s s') : ∀ (ps : List Bs) (loc : Nat) (p : Int), okP loc ps → (ps ≠ [] → OkAt s (depK loc) loc p) → (walkP s p ps).isSome = true →
    (∀ t ∈ (dT (foldsD s p ps) ps).1, getT s' (prOf (tx t)) = some t) → (∀ q, (dT (foldsD s p ps) ps).2 = some q → OkAt s' (depK loc) loc q) ∧ PutK s' (dT (foldsD s p ps) ps).1
  | [], loc, p, _, _, _, _ => by
    refine ⟨fun q h => ?_, fun t h => ?_⟩
    · have h : (none : Option Int) = some q := h
      cases h
    · have h : t ∈ ([] : List ByteArray) := h
      cases h
  | n :: r, loc, p, hp, ha, hw, ht => by
    obtain ⟨k, hkn, hkr, hpr⟩ := hp
    obtain ⟨h5, hdk, hd0⟩ := kids_dep hkn
    obtain ⟨l, hl, hold⟩ := (ha (by simp)).list
    rw [walkP, hl, Option.bind_some] at hw
    rw [foldsD, hl, Option.getD_some] at ht ⊢
    cases hg : getE l n with
    | none => rw [hg] at hw; cases hw
    | some q =>
      rw [hg, Option.bind_some] at hw
      rw [hg, Option.getD_some] at ht
      rw [Option.getD_some]
      have hq : r ≠ [] → OkAt s (depK k) k q := fun hr => by
        obtain ⟨k2, h1, h2⟩ := hold _ (getE_some hg)
        have h1 : (n, k2) ∈ kidsK loc := h1
        obtain rfl := kids_fun hkn h1
        rcases h2 with ⟨_, h3⟩ | ⟨h3, h4⟩
        · exfalso
          cases r with
          | nil => exact hr rfl
          | cons m r => rw [walkP, not_both h3] at hw; cases hw
        · rw [hdk h3, Nat.add_sub_cancel] at h4; exact h4
      have hsub : ∀ t ∈ (dT (foldsD s q r) r).1, t ∈ (dT (l :: foldsD s q r) (n :: r)).1 := fun t h => by
        rw [dT]; split
        · exact h
        · simp [h]
      obtain ⟨i1, i2⟩ := down_okK hk r k q hpr hq hw (fun t h => ht t (hsub t h))
      have hok : ∀ e ∈ restD l n (dT (foldsD s q r) r).2, ∃ k, (tx e.1, k) ∈ kidsK loc ∧ ((e.2 ∈ fileK ∧ (fileOf s' e.2).isSome = true) ∨ (k < 5 ∧ OkAt s' (depK loc - 1) k e.2)) := fun e he => by
        rcases restD_mem he with h | ⟨h1, h2⟩
        · obtain ⟨k2, h1, h2⟩ := hold e h
          refine ⟨k2, h1, ?_⟩
          rcases h2 with ⟨h4, h6⟩ | ⟨h4, h6⟩
          · exact .inl ⟨h4, keep_file hk h6⟩
          · exact .inr ⟨h4, h6.keep hk⟩
        · refine ⟨k, by rw [h1]; exact hkn, .inr ?_⟩
          have hr : k < 5 := by
            rcases hkr with rfl | h
            · cases h2
            · exact h
          have := i1 _ h2
          rw [hdk hr, Nat.add_sub_cancel]
          exact ⟨hr, this⟩
      by_cases hn : restD l n (dT (foldsD s q r) r).2 = []
      · rw [dT, if_pos hn]
        exact ⟨(by intro q h; cases h), i2⟩
      · have hin : mk (foldT (restD l n (dT (foldsD s q r) r).2)) ∈ (dT (l :: foldsD s q r) (n :: r)).1 := by rw [dT, if_neg hn]; simp
        have hroot := OkAt.of_list hd0 (restD_valid l n _) (ht _ hin) hok
        rw [dT, if_neg hn]
        refine ⟨fun q h => ?_, fun t h => ?_⟩
        · injection h with h; subst h; exact hroot
        · rcases List.mem_append.1 h with h | h
          · exact i2 t h
          · rw [List.mem_singleton] at h; subst h; exact ⟨loc, h5, hroot⟩
/-! ### the prints of each kind -/
def combK (ps : Nat → List Int) : List (Bs × Nat) → List (List En)
  | [] => [[]]
  | x :: r => combK ps r ++ (ps x.2).flatMap fun p => (combK ps r).map fun l => (mk x.1, p) :: l
def prK : Nat → Nat → List Int
  | 0, _ => []
  | f + 1, loc => (combK (fun k => fileK ++ if k < 5 then prK f k else []) (kidsK loc)).map fun l => prOf (foldT l)
theorem nil_comb (ps : Nat → List Int) : ∀ r, [] ∈ combK ps r
  | [] => by simp [combK]
  | x :: r => by rw [combK]; exact List.mem_append.2 (.inl (nil_comb ps r))
theorem comb_mem (ps : Nat → List Int) : ∀ (r : List (Bs × Nat)) (l : List En), SortE l → (r.Pairwise fun a b => lessB a.1 b.1 = true) → (∀ e ∈ l, ∃ k, (tx e.1, k) ∈ r ∧ e.2 ∈ ps k) → l ∈ combK ps r
  | r, [], _, _, _ => nil_comb ps r
  | [], e :: l, _, _, h => by obtain ⟨k, hk, _⟩ := h e (by simp); cases hk
  | x :: r, e :: l, hs, hr, h => by
    have hs2 := List.pairwise_cons.1 hs
    have hr2 := List.pairwise_cons.1 hr
    have hirr : ∀ b : Bs, lessB b b = false := lessB_irrefl
    have htr : ∀ a b c : Bs, lessB a b = true → lessB b c = true → lessB a c = true := fun a b c => lessB_trans
    obtain ⟨k, hk, hp⟩ := h e (by simp)
    rw [combK, List.mem_append]
    have hx : lessB x.1 (tx e.1) = true ∨ tx e.1 = x.1 := by
      rcases List.mem_cons.1 hk with h1 | h1
      · right; exact congrArg Prod.fst h1
      · left; exact hr2.1 _ h1
    have hrest : ∀ e' ∈ l, ∃ k, (tx e'.1, k) ∈ r ∧ e'.2 ∈ ps k := fun e' he' => by
      obtain ⟨k', hk', hp'⟩ := h e' (by simp [he'])
      rcases List.mem_cons.1 hk' with h1 | h1
      · exfalso
        have e1 : tx e'.1 = x.1 := congrArg Prod.fst h1
        have h2 := hs2.1 e' he'
        rw [e1] at h2
        rcases hx with h3 | h3
        · have := htr _ _ _ h3 h2; rw [hirr] at this; cases this
        · rw [h3, hirr] at h2; cases h2
      · exact ⟨k', h1, hp'⟩
    rcases List.mem_cons.1 hk with h1 | h1
    · right
      have e1 : tx e.1 = x.1 := congrArg Prod.fst h1
      have e2 : k = x.2 := congrArg Prod.snd h1
      rw [List.mem_flatMap]
      refine ⟨e.2, by rw [← e2]; exact hp, List.mem_map.2 ⟨l, comb_mem ps r l hs2.2 hr2.2 hrest, ?_⟩⟩
      rw [← e1]
      obtain ⟨e1, e2⟩ := e
      simp only [mk_tx]
    · left
      exact comb_mem ps r (e :: l) hs hr2.2 fun e' he' => by
        rcases List.mem_cons.1 he' with rfl | he'
        · exact ⟨k, h1, hp⟩
        · exact hrest e' he'
theorem folder_print {s : List Pc} (hs : storeV s = true) {p : Int} {l : List En} (h : folderOf s p = some l) : entsV l = true ∧ p = prOf (foldT l) := by
  unfold folderOf at h
  obtain ⟨t, h1, h2⟩ := Option.bind_eq_some_iff.1 h
  obtain ⟨hv, hb⟩ := readF_iff.1 h2
  have := (getT_valid hs h1).2.1
  refine ⟨hv, ?_⟩
  rw [← this, ← hb]
  unfold foldT
  rw [if_pos hv]
theorem OkAt.print {s : List Pc} (hs : storeV s = true) : ∀ {f loc : Nat} {p : Int}, OkAt s f loc p → p ∈ prK f loc
  | 0, _, _, h => h.elim
  | f + 1, loc, p, h => by
    obtain ⟨l, hf, hl⟩ := h
    obtain ⟨hv, rfl⟩ := folder_print hs hf
    rw [prK, List.mem_map]
    refine ⟨l, comb_mem _ _ _ (entsV_sorted hv) (kids_sorted loc) fun e he => ?_, rfl⟩
    obtain ⟨k, hk, h2⟩ := hl e he
    refine ⟨k, hk, ?_⟩
    rw [List.mem_append]
    rcases h2 with ⟨h3, _⟩ | ⟨h3, h4⟩
    · exact .inl h3
    · right; rw [if_pos h3]; exact h4.print hs
def noA (l : List Int) : Bool := l.all fun p => decide (p ≠ 354)
theorem noA_0 : noA (prK 3 0) = true := by decide +kernel
theorem noA_1 : noA (prK 2 1) = true := by decide +kernel
theorem noA_2 : noA (prK 2 2) = true := by decide +kernel
theorem noA_3 : noA (prK 1 3) = true := by decide +kernel
theorem noA_4 : noA (prK 1 4) = true := by decide +kernel
theorem noA_f : noA fileK = true := by decide +kernel
theorem noA_mem {l : List Int} (h : noA l = true) {p : Int} (hp : p ∈ l) : p ≠ 354 := by
  unfold noA at h
  rw [List.all_eq_true] at h
  exact of_decide_eq_true (h p hp)
theorem noA_at {s : List Pc} (hs : storeV s = true) {loc : Nat} (hl : loc < 5) {p : Int} (h : OkAt s (depK loc) loc p) : p ≠ 354 := by
  have h2 := h.print hs
  match loc, hl with
  | 0, _ => exact noA_mem noA_0 h2
  | 1, _ => exact noA_mem noA_1 h2
  | 2, _ => exact noA_mem noA_2 h2
  | 3, _ => exact noA_mem noA_3 h2
  | 4, _ => exact noA_mem noA_4 h2
/-! ### drawn stores -/
structure InvK (s : List Pc) (r : Int) : Prop where
  valid : storeV s = true
  root : OkAt s (depK 0) 0 r
  no : ∀ q ∈ s, q.1 ≠ 354
def okP? (loc : Nat) : List Bs → Bool
  | [] => true
  | n :: r => (kidsK loc).any fun x => (x.1 == n) && (r.isEmpty || decide (x.2 < 5)) && okP? x.2 r
theorem okP_of : ∀ (ps : List Bs) (loc : Nat), okP? loc ps = true → okP loc ps
  | [], _, _ => trivial
  | n :: r, loc, h => by
    rw [okP?, List.any_eq_true] at h
    obtain ⟨x, hx, h⟩ := h
    rw [Bool.and_eq_true, Bool.and_eq_true, Bool.or_eq_true, beq_iff_eq, decide_eq_true_eq, List.isEmpty_iff] at h
    obtain ⟨⟨h1, h2⟩, h3⟩ := h
    exact ⟨x.2, by rw [← h1]; exact hx, h2, okP_of r x.2 h3⟩
theorem paths_okP : ∀ p ∈ paths7, okP? 0 ((pathP p).getD []) = true := by decide +kernel
theorem path_okP {p : Bs} (hp : p ∈ paths7) {ps : List Bs} (h : pathP p = some ps) : okP 0 ps := by
  have := paths_okP p hp
  rw [h] at this
  exact okP_of _ _ this
theorem fileK_mem {c : Bs} (h : c ∈ conts4) : prOf (fileT c) ∈ fileK := List.mem_map.2 ⟨c, h, rfl⟩
theorem putAll_no {s s' : List Pc} {ts : List ByteArray} (hs : storeV s = true) (h : putAll s ts = some s') (hn : ∀ q ∈ s, q.1 ≠ 354) (ht : ∀ t ∈ ts, prOf (tx t) ≠ 354) : ∀ q ∈ s', q.1 ≠ 354 := fun q hq => by
  rcases ((putAll_ok _ _ _ hs h).2 q).1 hq with h1 | ⟨t, h1, rfl⟩
  · exact hn q h1
  · exact ht t h1
theorem upT_len : ∀ (fs : List (List En)) (ns : List Bs) (leaf : Int) (x : List ByteArray × Int), upT fs ns leaf = some x → x.1.length ≤ ns.length
  | [], ns, leaf, x, h => by
    have e : upT [] ns leaf = some ([], leaf) := by cases ns <;> rfl
    rw [e] at h; injection h with h; subst h; simp
  | l :: fs, [], leaf, x, h => by
    have e : upT (l :: fs) [] leaf = some ([], leaf) := rfl
    rw [e] at h; injection h with h; subst h; simp
  | l :: fs, n :: ns, leaf, x, h => by
    obtain ⟨y, hy, _, rfl⟩ := upT_top h
    have := upT_len fs ns leaf y hy
    simp; omega
theorem dT_len : ∀ (fs : List (List En)) (ns : List Bs), (dT fs ns).1.length ≤ ns.length
  | [], ns => by cases ns <;> simp [dT]
  | l :: fs, [] => by simp [dT]
  | l :: fs, n :: ns => by
    have := dT_len fs ns
    rw [dT]
    split
    · simp; omega
    · simp; omega
theorem putAll_len : ∀ (ts : List ByteArray) (s s' : List Pc), putAll s ts = some s' → s'.length ≤ s.length + ts.length
  | [], s, s', h => by rw [putAll] at h; injection h with h; subst h; simp
  | t :: r, s, s', h => by
    rw [putAll] at h
    split at h
    · rename_i hok
      have h1 := (putT_ok hok).2.1.len
      have h2 := putAll_len r _ _ h
      simp; omega
    · cases h
theorem InvK.write {s s' : List Pc} {r r' : Int} {p c : Bs} (hi : InvK s r) (hp : p ∈ paths7) (hc : c ∈ conts4) (h : writeA s r p c = (s', r', true)) : InvK s' r' ∧ s'.length ≤ s.length + 4 := by
  obtain ⟨hs, hcv, n, t, fs, x, hpp, hf, hx, hput, rfl⟩ := writeA_ok h
  have hk := keep_put hs hput
  have hv := (putAll_ok _ _ _ hs hput).1
  have hfile : (fileOf s' (prOf (fileT c))).isSome = true := by rw [file_put hs hput (by simp) hcv]; rfl
  obtain ⟨h1, h2⟩ := up_okK hk (fileK_mem hc) hfile (n :: t) 0 (some r) fs x (by simp) (path_okP hp hpp) (fun q hq => by injection hq with hq; subst hq; exact hi.root) hf hx (fun u hu => getT_put hs hput (by simp [hu]))
  refine ⟨⟨hv, h1, putAll_no hs hput hi.no fun u hu => ?_⟩, ?_⟩
  · rcases List.mem_cons.1 hu with rfl | hu
    · exact noA_mem noA_f (fileK_mem hc)
    · obtain ⟨loc, h3, h4⟩ := h2 u hu
      exact noA_at hv h3 h4
  · have h3 := putAll_len _ _ _ hput
    have h4 := upT_len _ _ _ _ hx
    have h5 : (n :: t).length ≤ 3 := (partsV_iff.1 (pathP_join hpp).1).1
    simp only [List.length_cons] at h3 h4 h5
    omega
theorem dropTs_mem {x : List ByteArray × Option Int} {t : ByteArray} (h : t ∈ x.1) : t ∈ (dropTs x).1 := by
  unfold dropTs; split
  · exact h
  · simp [h]
theorem OkAt.empty {s s' : List Pc} {ts : List ByteArray} (hs : storeV s = true) (h : putAll s ts = some s') {L : List En} (hL : L = []) (ht : mk (foldT L) ∈ ts) : OkAt s' (depK 0) 0 (prOf (foldT L)) := by
  have h1 := folder_put hs h ht (by rw [hL]; rfl)
  exact ⟨L, h1, by subst hL; simp⟩
theorem InvK.drop {s s' : List Pc} {r r' : Int} {p : Bs} (hi : InvK s r) (hp : p ∈ paths7) (h : dropA s r p = (s', r', true)) : InvK s' r' ∧ s'.length ≤ s.length + 4 := by
  have hw : ∀ n t, pathP p = some (n :: t) → (walkP s r (n :: t)).isSome = true := fun n t hpp => by
    cases hw : (walkP s r (n :: t)).isSome
    · rw [dropA_nowalk hi.valid hpp hw] at h; simp at h
    · rfl
  obtain ⟨hs, n, t, hpp, hput, rfl⟩ := dropA_ok h
  have hk := keep_put hs hput
  have hv := (putAll_ok _ _ _ hs hput).1
  obtain ⟨h1, h2⟩ := down_okK hk (n :: t) 0 r (path_okP hp hpp) (fun _ => hi.root) (hw n t hpp) (fun u hu => getT_put hs hput (dropTs_mem hu))
  have h5 : (n :: t).length ≤ 3 := (partsV_iff.1 (pathP_join hpp).1).1
  have h6 := dT_len (foldsD s r (n :: t)) (n :: t)
  have h7 := putAll_len _ _ _ hput
  generalize dT (foldsD s r (n :: t)) (n :: t) = x at *
  have hroot : OkAt s' (depK 0) 0 (dropTs x).2 := by
    unfold dropTs at hput ⊢
    cases hx : x.2 with
    | some q => exact h1 q hx
    | none =>
      rw [hx] at hput
      exact OkAt.empty hs hput rfl (by simp)
  refine ⟨⟨hv, hroot, putAll_no hs hput hi.no fun u hu => ?_⟩, ?_⟩
  · have hu0 := hu
    unfold dropTs at hu
    split at hu
    · obtain ⟨loc, h3, h4⟩ := h2 u hu
      exact noA_at hv h3 h4
    · rcases List.mem_append.1 hu with hu | hu
      · obtain ⟨loc, h3, h4⟩ := h2 u hu
        exact noA_at hv h3 h4
      · rw [List.mem_singleton] at hu
        subst hu
        exact noA_at hv (show 0 < 5 by decide) (OkAt.empty hs hput rfl hu0)
  · have : (dropTs x).1.length ≤ x.1.length + 1 := by
      unfold dropTs; split <;> simp
    omega
theorem drawnK {k : Nat} {s : List Pc} {r : Int} (h : DrawnS k s r) : InvK s r ∧ s.length ≤ 1 + 4 * k := by
  induction h with
  | base =>
    refine ⟨⟨by decide +kernel, ?_, by decide +kernel⟩, by decide +kernel⟩
    refine ⟨[], by decide +kernel, by simp⟩
  | @step k s s' r r' _ hst ih =>
    obtain ⟨ih, hl⟩ := ih
    rcases hst with ⟨rfl, rfl⟩ | ⟨path, hp, ⟨b, h⟩ | ⟨c, hc, b, h⟩⟩
    · exact ⟨ih, by omega⟩
    · cases b
      · obtain ⟨rfl, rfl⟩ := dropA_no ih.valid hp h; exact ⟨ih, by omega⟩
      · obtain ⟨h1, h2⟩ := ih.drop hp h; exact ⟨h1, by omega⟩
    · cases b
      · obtain ⟨rfl, rfl⟩ := writeA_no ih.valid hp hc h; exact ⟨ih, by omega⟩
      · obtain ⟨h1, h2⟩ := ih.write hp hc h; exact ⟨h1, by omega⟩
/-! ### the order of lines -/
def rightL (s : ByteArray) : Option Pc := match cutC 32 (bs s) with | some x => if pieceOk (readH x.1, mk x.2) then some (readH x.1, mk x.2) else none | none => none
theorem lineB_right {st : List Pc} {bad : Nat} {s : ByteArray} {q : Pc} (h : rightL s = some q) (hok : (putT st q.2).2.2 = true) : lineB (st, bad) s = ((putT st q.2).1, bad) ∧ q.1 = prOf (tx q.2) := by
  unfold rightL at h
  split at h
  · rename_i x hx
    split at h
    · rename_i hp
      injection h with h; subst h
      exact ⟨lineB_put hx hp hok, (pieceOk_iff.1 hp).2.symm⟩
    · cases h
  · cases h
theorem lineB_left {st : List Pc} {bad : Nat} {s : ByteArray} (h : rightL s = none) : lineB (st, bad) s = (st, bad + 1) := by
  unfold rightL at h
  split at h
  · rename_i x hx
    split at h
    · cases h
    · rename_i hp
      exact lineB_wrong hx (by simpa using hp)
  · rename_i hx; exact lineB_none hx
theorem store_nodup {s : List Pc} (h : storeV s = true) : s.Nodup := by
  have := storeV_sorted h
  unfold Sorted at this
  exact this.imp fun hab e => by subst e; exact absurd hab (by omega)
theorem fold_within {S : List Pc} (hS : storeV S = true) : ∀ (ls : List ByteArray) (st : List Pc) (bad : Nat), storeV st = true → (∀ q ∈ st, q ∈ S) → (∀ s ∈ ls, ∀ q, rightL s = some q → q ∈ S) →
    storeV (ls.foldl lineB (st, bad)).1 = true ∧ (∀ q, q ∈ (ls.foldl lineB (st, bad)).1 ↔ q ∈ st ∨ ∃ s ∈ ls, rightL s = some q) ∧ (ls.foldl lineB (st, bad)).2 = bad + (ls.filter fun s => (rightL s).isNone).length
  | [], st, bad, hv, _, _ => ⟨hv, fun q => by simp, by simp⟩
  | s :: ls, st, bad, hv, hsub, hr => by
    rw [List.foldl_cons]
    cases hq : rightL s with
    | none =>
      rw [lineB_left hq]
      obtain ⟨h1, h2, h3⟩ := fold_within hS ls st (bad + 1) hv hsub (fun x hx => hr x (by simp [hx]))
      refine ⟨h1, fun q => ?_, ?_⟩
      · rw [h2 q]
        constructor
        · rintro (h | ⟨x, hx, h⟩)
          · exact .inl h
          · exact .inr ⟨x, by simp [hx], h⟩
        · rintro (h | ⟨x, hx, h⟩)
          · exact .inl h
          · rcases List.mem_cons.1 hx with rfl | hx
            · rw [hq] at h; cases h
            · exact .inr ⟨x, hx, h⟩
      · rw [h3, List.filter_cons_of_pos (by rw [hq]; rfl), List.length_cons]; omega
    | some q =>
      have hqS := hr s (by simp) q hq
      have hpo := storeV_piece hS hqS
      obtain ⟨ht, hpr⟩ := pieceOk_iff.1 hpo
      have hpr : prOf (tx q.2) = q.1 := hpr
      have hqe : (prOf (tx q.2), q.2) = q := by rw [hpr]
      have hcan : (putT st q.2).2.2 = true := by
        refine putT_can.2 ⟨hv, ht, fun u hu => ?_, ?_⟩
        · have := sorted_inj (storeV_sorted hS) (hsub _ hu) hqS (show (prOf (tx q.2), u).1 = q.1 from hpr)
          exact congrArg Prod.snd this
        · by_cases hin : (prOf (tx q.2), q.2) ∈ st
          · exact .inl hin
          · right
            have hnd : (q :: st).Nodup := List.nodup_cons.2 ⟨fun h => hin (by rw [hqe]; exact h), store_nodup hv⟩
            have := nodup_len (q :: st) S hnd (fun x hx => by
              rcases List.mem_cons.1 hx with rfl | hx
              · exact hqS
              · exact hsub x hx)
            have h40 := storeV_len hS
            rw [List.length_cons] at this
            omega
      obtain ⟨hl, _⟩ := lineB_right (bad := bad) hq hcan
      rw [hl]
      obtain ⟨_, hpo2, _⟩ := putT_ok hcan
      obtain ⟨h1, h2, h3⟩ := fold_within hS ls (putT st q.2).1 bad hpo2.valid (fun x hx => by
        rcases (hpo2.mem x).1 hx with h | h
        · exact hsub x h
        · rw [h, hqe]; exact hqS) (fun x hx => hr x (by simp [hx]))
      refine ⟨h1, fun x => ?_, ?_⟩
      · rw [h2 x, hpo2.mem x, hqe]
        constructor
        · rintro ((h | rfl) | ⟨y, hy, h⟩)
          · exact .inl h
          · exact .inr ⟨s, by simp, hq⟩
          · exact .inr ⟨y, by simp [hy], h⟩
        · rintro (h | ⟨y, hy, h⟩)
          · exact .inl (.inl h)
          · rcases List.mem_cons.1 hy with rfl | hy
            · rw [hq] at h; injection h with h; exact .inl (.inr h.symm)
            · exact .inr ⟨y, hy, h⟩
      · rw [h3, List.filter_cons_of_neg (by rw [hq]; simp)]
theorem bund_order {S : List Pc} (hS : storeV S = true) {ls ls' : List ByteArray} (h : ∀ s ∈ ls, ∀ q, rightL s = some q → q ∈ S) (hm : ∀ s, s ∈ ls' ↔ s ∈ ls) (hc : (ls'.filter fun s => (rightL s).isNone).length = (ls.filter fun s => (rightL s).isNone).length) : bundR ls' = bundR ls := by
  obtain ⟨h1, h2, h3⟩ := fold_within hS ls [] 0 rfl (by simp) h
  obtain ⟨g1, g2, g3⟩ := fold_within hS ls' [] 0 rfl (by simp) (fun s hs => h s ((hm s).1 hs))
  have e1 : (bundR ls').1 = (bundR ls).1 := store_ext g1 h1 fun q => by
    show q ∈ (ls'.foldl lineB ([], 0)).1 ↔ q ∈ (ls.foldl lineB ([], 0)).1
    rw [g2 q, h2 q]
    constructor
    · rintro (h | ⟨s, hs, h⟩)
      · exact .inl h
      · exact .inr ⟨s, (hm s).1 hs, h⟩
    · rintro (h | ⟨s, hs, h⟩)
      · exact .inl h
      · exact .inr ⟨s, (hm s).2 hs, h⟩
  have e2 : (bundR ls').2 = (bundR ls).2 := by
    show (ls'.foldl lineB ([], 0)).2 = (ls.foldl lineB ([], 0)).2
    rw [g3, h3, hc]
  exact Prod.ext e1 e2
theorem bund_reverse {S : List Pc} (hS : storeV S = true) {ls : List ByteArray} (h : ∀ s ∈ ls, ∀ q, rightL s = some q → q ∈ S) : bundR ls.reverse = bundR ls :=
  bund_order hS h (fun s => List.mem_reverse) (by rw [List.filter_reverse, List.length_reverse])
def extras5 : List ByteArray := [⟨#[]⟩, ⟨#[49, 54, 50, 32, 97]⟩, ⟨#[49, 54, 50, 32, 98]⟩, ⟨#[49, 54, 50]⟩, ⟨#[122, 122, 32, 97]⟩]
theorem extras5_ok : ∀ s ∈ extras5, rightL s = none ∨ rightL s = some (354, mk [97]) := by decide +kernel
theorem lineOf_right {p : Pc} (h : pieceOk p = true) : rightL (lineOf p) = some p := by
  unfold rightL
  rw [lineOf_bs, cut_hex]
  simp only
  have hv := prOf_pv (pieceOk_iff.1 h).1
  rw [(pieceOk_iff.1 h).2] at hv
  rw [readH_hexT hv, mk_tx]
  rw [if_pos h]
/-- Lines that are drawn: those of a drawn store, and some more. -/
def DrawnL (ls : List ByteArray) : Prop := ∃ k s r more, k ≤ 5 ∧ DrawnS k s r ∧ ls = bundL s ++ more ∧ ∀ x ∈ more, x ∈ extras5 ∨ x ∈ bundL s
theorem drawnL_turn {ls : List ByteArray} (h : DrawnL ls) : bundR ls.reverse = bundR ls := by
  obtain ⟨k, s, r, more, hk, hd, rfl, hm⟩ := h
  obtain ⟨hi, hl⟩ := drawnK hd
  have hcan : (putT s (mk [97])).2.2 = true := putT_can.2 ⟨hi.valid, by decide, fun u hu => absurd rfl (hi.no _ hu), .inr (by omega)⟩
  obtain ⟨_, hpo, _⟩ := putT_ok hcan
  have hin : ∀ x ∈ bundL s, ∀ q, rightL x = some q → q ∈ (putT s (mk [97])).1 := fun x hx q hq => by
    unfold bundL at hx
    rw [if_pos hi.valid] at hx
    obtain ⟨p, hp, rfl⟩ := List.mem_map.1 hx
    rw [lineOf_right (storeV_piece hi.valid hp)] at hq
    injection hq with hq; subst hq
    exact (hpo.mem _).2 (.inl hp)
  refine bund_reverse hpo.valid fun x hx q hq => ?_
  rcases List.mem_append.1 hx with h | h
  · exact hin x h q hq
  · rcases hm x h with h | h
    · rcases extras5_ok x h with h1 | h1
      · rw [h1] at hq; cases hq
      · rw [h1] at hq; injection hq with hq; subst hq
        exact (hpo.mem _).2 (.inr rfl)
    · exact hin x h q hq
end Go.Proofs.YtkglfmgmmnfmbaaDoor
