/- All files below a folder, the reference's: l11Files, AllFiles. -/
import Derived.Test.YtokelopllbaikaaGreatDoorGb8
import Derived.Test.YtokelopllbaikaaGreatDoorPs
import Derived.Maps.AppendAt
set_option linter.unusedVariables false
namespace Go.Proofs.YtokelopllbaikaaGreatDoor
open Go.RowKit
section
variable {ops : Array Oper} {o : Oper} {a : Act} {K : Act → World → Prop} {Q : Exit → Act → World → Prop} {E' : Prop} {w0 wr : World} {v : Value}
set_option maxRecDepth 100000 in
theorem step_strK {l m : List ByteArray} {A : Option Addr} {c : Nat} {s x : Operand} (hw : Region.wanted o (yielded ops a.tmps) = true) (ho : o.op = .call { callee := .builtin .append, args := #[s, x], argTypes := #[33, 33] })
    (hown : Own wr w0.heap.size 9 1 encS v l) (hb : Below w0.heap.size w0 wr) (hn : l.length + m.length ≤ 33554432) (hsl : Sl wr encS 1 A m) (hcz : A = none → c = 0)
    (hs : a.eval s = v) (hx : a.eval x = .slice A m.length c)
    (h : ∀ v' w', Own w' w0.heap.size 9 1 encS v' (l ++ m) → Below w0.heap.size w0 w' → Grew v wr w' → Kin v wr v' → K (a.put o.dst v') w') : if Region.wanted o (yielded ops a.tmps) = true then Oper.wp Tryz.prog o a wr K Q else E' := by
  obtain ⟨i0, hi0, hz0, hz1, hz2⟩ := info_parts str_info
  rw [if_pos hw]
  cases A with
  | none =>
    have hm : m = [] := by
      cases m with
      | nil => rfl
      | cons y r => obtain ⟨b, o, e, _⟩ := hsl (by simp); cases e
    subst hm
    rw [hcz rfl] at hx
    have hrun := run_append_owned_none (P := Tryz.prog) (w := wr) w0.heap.size 33 o.type 9 i0 1 Tryz.underlying33 hi0 v l.length (flat encS l) hown
    have hK := h v wr (by rw [List.append_nil]; exact hown) hb (Grew.refl _ _) (fun b _ h => h)
    simp at hx
    unfold Oper.wp
    simp [execOp, ho, resolve, invoke, builtin, hs, hx, hrun, Result.andThen]
    exact hK
  | some ad =>
    obtain ⟨v', w', hr, h2, h3, h4, h5⟩ := run_append_own_at (P := Tryz.prog) wr w0.heap.size 33 o.type 9 i0 _ 1 16 Tryz.underlying33 hi0 hz0 hz1 hz2 rfl (by decide) v l.length (flat encS l) hown ad m.length c (flat encS m) (flat_length (enc := encS) (size := 1) (fun _ => rfl) m) (by
        intro j u hu
        have hpos : 0 < m.length := by
          have hlt := (List.getElem?_eq_some_iff.1 hu).1
          rw [flat_length (enc := encS) (size := 1) (fun _ => rfl)] at hlt
          cases m with
          | nil => simp at hlt
          | cons y r => simp
        obtain ⟨b, o', e, hc⟩ := hsl hpos
        injection e with e
        subst e
        have hadd : (⟨b, o', none⟩ : Addr).add j = ⟨b, o' + j, none⟩ := by unfold Addr.add; split <;> simp_all
        rw [hadd]; exact hc j u hu) (by
        intro u hu
        unfold flat at hu
        obtain ⟨y, _, hy⟩ := List.mem_flatMap.1 hu
        exact oneS y u hy) (by unfold maxLen; omega) (by omega) hb.size
    unfold Oper.wp execOp
    simp only [ho, resolve, invoke, builtin, Sem.run_bind, Sem.run_pure, Result.andThen_ok, List.map_toArray, List.map_cons, List.map_nil, hs, hx, hr]
    refine h v' w' ?_ (hb.grown h3 hb.size (fun k hk => (World.ownsRow.lt hown k hk).1)) h3 ?_
    · show w'.ownsRow _ _ _ v' (l ++ m).length (flat encS (l ++ m))
      rw [flat_append, List.length_append]; exact h2
    · intro b hb2 hne hv'
      rcases h5 with h5 | h5
      · exact hne (h5 ▸ hv')
      · rw [h5] at hv'; injection hv' with e; omega
end
theorem strAt_one (w : World) (t : ByteArray) : StrAt ((w.alloc (.cells #[] 9)).drew.alloc (rowS t)) (w.heap.size + 1) t := by
  have h := StrAt.new (w.alloc (.cells #[] 9)).drew t
  have e : (w.alloc (.cells #[] 9)).drew.heap.size = w.heap.size + 1 := by
    show (w.alloc (.cells #[] 9)).heap.size = _
    simp
  rw [e] at h; exact h
theorem own_one (w : World) (t : ByteArray) : Own ((w.alloc (rowS t)).drew.alloc (.cells #[] 9)) w.heap.size 9 1 encS (.slice (some ⟨w.heap.size + 1, 0, none⟩) 0 0) [] := by
  have e : (w.alloc (rowS t)).drew.heap.size = w.heap.size + 1 := by
    show (w.alloc (rowS t)).heap.size = _
    simp
  have h := Own.made (w := (w.alloc (rowS t)).drew) (base := w.heap.size) (enc := encS) (E := 9) (size := 1) (by omega)
  rw [e] at h; exact h
theorem own_lit {α : Type} {enc : α → List Value} {W : World} {b base size : Nat} {E : TypeId} {l : List α} (he : ∀ x, (enc x).length = size) (h : W.heap[b]? = some (.cells (flat enc l).toArray E (0, 0))) (hb : base ≤ b) (hm : l.length ≤ maxLen) :
    Own W base E size enc (.slice (some ⟨b, 0, none⟩) l.length l.length) l := by
  refine Filled.own ⟨(flat enc l).toArray, h, ?_, ?_, ?_⟩ he hb hm
  · simp [flat_length he]
  · simp [flat_length he]
  · simp
def CellE (w : World) (b o : Nat) (y : En) : Prop := w.cell? ⟨b, o, none⟩ = some (.string y.1) ∧ w.cell? ⟨b, o + 1, none⟩ = some (.int .i64 y.2)
theorem CellE.below {w w' : World} {b o : Nat} {y : En} (h : CellE w b o y) (hb : Below w.heap.size w w') : CellE w' b o y := ⟨Below_cells hb _ _ _ h.1, Below_cells hb _ _ _ h.2⟩
theorem CellE.grew {w w' : World} {b o : Nat} {y : En} {v : Value} (h : CellE w b o y) (hg : Grew v w w') (hv : v.ownBlock ≠ some b) : CellE w' b o y := ⟨hg.cell hv h.1, hg.cell hv h.2⟩
theorem fileOf_text {l : List Pc} {p : Int} : readFi (bs ((getT l p).getD ⟨#[]⟩)) = fileOf l p := by
  unfold fileOf
  cases getT l p with
  | none => rfl
  | some t => rfl
theorem fileOf_got {l : List Pc} {p : Int} (h : (fileOf l p).isSome = true) : (getT l p).isSome = true := by
  unfold fileOf at h
  cases hg : getT l p with
  | none => rw [hg] at h; cases h
  | some t => rfl
theorem folderOf_got {l : List Pc} {p : Int} (h : (folderOf l p).getD [] ≠ []) : (getT l p).isSome = true ∧ (folderOf l p).isSome = true := by
  unfold folderOf at *
  cases hg : getT l p with
  | none => rw [hg] at h; exact absurd rfl h
  | some t =>
    rw [hg] at h
    refine ⟨rfl, ?_⟩
    cases hr : readF (tx t) with
    | none => rw [Option.bind_some, hr] at h; exact absurd rfl h
    | some e => rw [Option.bind_some, hr]; rfl
def L11 (A : Option Addr) (c : Nat) (l : List Pc) (p : Int) (PA : Option Addr) (pc : Nat) (pl : List ByteArray) (w : World) : Prop :=
  Sl w encP 2 A l → Sl w encS 1 PA pl → (PA = none → pc = 0) → (∀ x ∈ pl, x.size ≤ 8) →
    Calls Tryz.prog 32 #[.slice A l.length c, .int .i64 p, .slice PA pl.length pc] w (OwnRes 9 1 encS ((specF l p (pl.map tx)).map mk) w)
set_option maxHeartbeats 16000000 in
set_option maxRecDepth 100000 in
theorem sl11_step (A : Option Addr) (c : Nat) (l : List Pc) (hv : storeV l = true) (pl : List ByteArray) (hl3 : pl.length ≤ 3)
    (ih : pl.length < 3 → ∀ (p : Int) (PA : Option Addr) (pc : Nat) (pl2 : List ByteArray) (w : World), pl2.length = pl.length + 1 → L11 A c l p PA pc pl2 w)
    (p : Int) (PA : Option Addr) (pc : Nat) (w : World) : L11 A c l p PA pc pl w := by
  intro hs hps hcz hsz
  have HS := Lib.hid hs
  have HPS := Lib.hid hps
  have HCZ := Lib.hid hcz
  have HSZ := Lib.hid hsz
  have HIH := Lib.hid ih
  have HV := Lib.hid hv
  have hl : l.length ≤ 16777216 := by have := storeV_len hv; omega
  have hG := fun w h => sl4Get_any A c l p w h hl
  have htz := getT_size hv (p := p)
  have hRF := fun w => sReadFile_any ((getT l p).getD ⟨#[]⟩) w (by omega)
  have hRD := fun w => sReadFolder_any ((getT l p).getD ⟨#[]⟩) w htz
  have hFT := folT_of (l := l) (p := p)
  have hSome := folT_some (l := l) (p := p)
  have hGot := fileOf_got (l := l) (p := p)
  have hFG := folderOf_got (l := l) (p := p)
  have hen3 : ((folderOf l p).getD []).length ≤ 3 := folder_len
  have HOK := Lib.hid (show ∀ e ∈ (folderOf l p).getD [], entOk e = true by
    cases hfo : folderOf l p with
    | none => intro e he; cases he
    | some en => intro e he; exact entsV_ok (folder_valid hfo) he)
  unfold RdRes at hRF
  unfold RfRes at hRD
  unfold folT at hFT
  rw [fileOf_text] at hRF
  rw [hFT, hSome] at hRD
  have hmt : (pl.map tx).length = pl.length := List.length_map ..
  have HFILE := Lib.hid (fun h h2 => specF_file (s := l) (p := p) (ps := pl.map tx) h h2)
  have HR0 := Lib.hid (show ((folderOf l p).getD [] = [] ∨ 3 ≤ pl.length) → ((fileOf l p).isSome = false ∨ pl.map tx = []) → (specF l p (pl.map tx)).map mk = [] from fun h1 h2 => by
    by_cases h3 : 3 ≤ pl.length
    · rw [specF_long h2 (by omega)]; rfl
    · have h4 := h1.resolve_right h3
      rw [specF_folder h2 (by omega), h4]; rfl)
  have HR1 := Lib.hid (show pl.length < 3 → ((fileOf l p).isSome = false ∨ pl.map tx = []) → (specF l p (pl.map tx)).map mk = accF l (2 - pl.length) (pl.map tx) ((folderOf l p).getD []) ((folderOf l p).getD []).length from fun h1 h2 => by
    rw [accF_all (Nat.le_refl _), specF_folder h2 (by omega), hmt])
  have HNEXT := Lib.hid (fun k (hk : k < ((folderOf l p).getD []).length) (h : pl.length < 3) => show accF l (2 - pl.length) (pl.map tx) ((folderOf l p).getD []) (k + 1) = accF l (2 - pl.length) (pl.map tx) ((folderOf l p).getD []) k ++ (specF l (((folderOf l p).getD [])[k]).2 (pl.map tx ++ [tx (((folderOf l p).getD [])[k]).1])).map mk by
    rw [accF_next hk, specF_step (by omega), hmt])
  have HLA := Lib.hid (fun k => accF_len (s := l) (f := 2 - pl.length) (ps := pl.map tx) (l := (folderOf l p).getD []) (k := k) hen3)
  clear hs hps hcz hsz ih hFT hSome htz
  generalize (getT l p).getD ⟨#[]⟩ = TT at *
  generalize (getT l p).isSome = okg at *
  generalize (folderOf l p).getD [] = en at *
  generalize (folderOf l p).isSome = okf at *
  generalize hSP : (specF l p (pl.map tx)).map mk = SP at *
  generalize mk ((fileOf l p).getD []) = CT at *
  generalize (fileOf l p).isSome = okc at *
  have HG := Lib.hid hG
  have HRF := Lib.hid hRF
  have HRD := Lib.hid hRD
  have HSP := Lib.hid hSP
  clear hG hRF hRD hSP
  by_cases hfile : okc = true ∧ 0 < pl.length
  · obtain ⟨rfl, hpos⟩ := hfile
    obtain rfl := hGot rfl
    have hne : pl.map tx ≠ [] := fun e => by rw [← List.length_eq_zero_iff, hmt] at e; omega
    rw [← HSP.out, HFILE.out rfl hne]
    have hJ := fun w h => sJoinPath_any PA pc pl w h (by omega) (fun x hx => Nat.le_trans (HSZ.out x hx) (by omega))
    show Calls _ _ _ _ (OwnRes _ _ _ [mk (joinP (pl.map bs))] _)
    generalize mk (joinP (pl.map bs)) = JP at *
    have HJ := Lib.hid hJ
    clear hJ HR0 HR1 HNEXT HLA
    go_enter Tryz.func32, Tryz.ntmps32
    go_wp2_with (first | (go_at_call 60; refine (HG.out _ HS.out).mono ?_; rintro e w' ⟨rfl, rfl⟩) | (go_at_call 35; refine (HRF.out _).mono ?_; rintro e w' ⟨rfl, rfl⟩) | (go_at_call 61; refine (HJ.out _ HPS.out).mono ?_; rintro e w' ⟨rfl, rfl⟩))
    go_ret
    exact ⟨_, rfl, own_lit (enc := encS) (l := [JP]) (fun _ => rfl) (heap_alloc_new w _) (Nat.le_refl _) (by unfold maxLen; simp), (Below.refl _ _).alloc (Nat.le_refl _) _⟩
  · have hor : okc = false ∨ pl.map tx = [] := by
      cases okc
      · exact .inl rfl
      · right
        have : ¬ 0 < pl.length := fun h => hfile ⟨rfl, h⟩
        rw [← List.length_eq_zero_iff, hmt]; omega
    have hguard : okg = false ∨ (okg = true ∧ okc = false) ∨ (okg = true ∧ okc = true ∧ ¬ 0 < pl.length) := by
      cases okg
      · exact .inl rfl
      · cases okc
        · exact .inr (.inl ⟨rfl, rfl⟩)
        · exact .inr (.inr ⟨rfl, rfl, fun h => hfile ⟨rfl, h⟩⟩)
    have HB := Lib.hid ((Below.refl w.heap.size w).alloc (Nat.le_refl _) (.cells #[] 9))
    have HACC := Lib.hid (((Own.made (enc := encS) (E := 9) (size := 1) (Nat.le_refl w.heap.size))))
    have HR0' := Lib.hid (fun h => HR0.out h hor)
    have HR1' := Lib.hid (fun h => HR1.out h hor)
    clear hfile hor hGot HR0 HR1 HSP HFILE
    by_cases hen : en = []
    · subst hen
      obtain rfl := HR0'.out (.inl rfl)
      clear HR1' HNEXT HLA HR0' HIH
      rcases hguard with rfl | ⟨rfl, rfl⟩ | ⟨rfl, rfl, hnp⟩
      all_goals
        go_enter Tryz.func32, Tryz.ntmps32
        go_wp2_with (first | (go_at_call 60; refine (HG.out _ HS.out).mono ?_; rintro e w' ⟨rfl, rfl⟩) | (go_at_call 35; refine (HRF.out _).mono ?_; rintro e w' ⟨rfl, rfl⟩))
        refine (HRD.out _).mono ?_
        rintro e w2 ⟨v, rfl, hown, hb⟩
        obtain ⟨X, d, rfl, hle, _, _⟩ := hown.sl
        replace HB := Lib.hid (HB.out.trans (hb.mono (by simp)))
        replace HACC := Lib.hid (HACC.out.below hb)
        clear hb hown
        go_wp2_with fail
        go_loopw [11, 14] (fun v i wr => v = .slice (some ⟨w.heap.size, 0, none⟩) 0 0 ∧ i = .int .i64 0 ∧ wr = w2) (fun _ _ _ => 0)
        case atStart => exact ⟨rfl, rfl, rfl⟩
        case round =>
          obtain ⟨rfl, rfl, rfl⟩ := hrel
          go_wp2
          go_ret
          exact ⟨_, rfl, HACC.out, HB.out⟩
    · obtain ⟨rfl, rfl⟩ := hFG hen
      have hpos : (0 : Int) < (en.length : Int) := by have := List.length_pos_iff.2 hen; omega
      by_cases hp3 : pl.length < 3
      case neg =>
        have hp3' : ¬ (pl.length : Int) < 3 := by omega
        obtain rfl := HR0'.out (.inr (by omega))
        clear HR1' HNEXT HLA HR0' HIH
        rcases hguard with h | ⟨_, rfl⟩ | ⟨_, rfl, hnp⟩
        · cases h
        · go_enter Tryz.func32, Tryz.ntmps32
          go_wp2_with (first | (go_at_call 60; refine (HG.out _ HS.out).mono ?_; rintro e w' ⟨rfl, rfl⟩) | (go_at_call 35; refine (HRF.out _).mono ?_; rintro e w' ⟨rfl, rfl⟩))
          refine (HRD.out _).mono ?_
          rintro e w2 ⟨v, rfl, hown, hb⟩
          obtain ⟨X, d, rfl, hle, _, _⟩ := hown.sl
          replace HB := Lib.hid (HB.out.trans (hb.mono (by simp)))
          replace HACC := Lib.hid (HACC.out.below hb)
          clear hb hown
          go_wp2_with fail
          go_loopw [11, 14] (fun v i wr => v = .slice (some ⟨w.heap.size, 0, none⟩) 0 0 ∧ i = .int .i64 0 ∧ wr = w2) (fun _ _ _ => 0)
          case atStart => exact ⟨rfl, rfl, rfl⟩
          case round =>
            obtain ⟨rfl, rfl, rfl⟩ := hrel
            go_wp2
            go_ret
            exact ⟨_, rfl, HACC.out, HB.out⟩
        · omega
      case pos =>
        have hp3' : (pl.length : Int) < 3 := by omega
        rw [HR1'.out hp3]
        have HNX := Lib.hid (fun k hk => HNEXT.out k hk hp3)
        have HI := Lib.hid (HIH.out hp3)
        clear HR1' HNEXT HR0' HIH
        rcases hguard with h | ⟨_, rfl⟩ | ⟨_, rfl, hnp⟩
        · cases h
        all_goals
          go_enter Tryz.func32, Tryz.ntmps32
          go_wp2_with (first | (go_at_call 60; refine (HG.out _ HS.out).mono ?_; rintro e w' ⟨rfl, rfl⟩) | (go_at_call 35; refine (HRF.out _).mono ?_; rintro e w' ⟨rfl, rfl⟩))
          refine (HRD.out _).mono ?_
          rintro e w2 ⟨v, rfl, hown, hb⟩
          obtain ⟨X, d, rfl, hle, _, _⟩ := hown.sl
          have HSX := Lib.hid hown.sl'
          have HLX := Lib.hid hown.ltA
          have HAX := Lib.hid (hown.apart (v := .slice (some ⟨w.heap.size, 0, none⟩) 0 0) (by intro g hg; have hg : some w.heap.size = some g := hg; injection hg with hg; subst hg; simp))
          replace HB := Lib.hid (HB.out.trans (hb.mono (by simp)))
          replace HACC := Lib.hid (HACC.out.below hb)
          clear hb hown
          go_wp2_with fail
          go_loopw [11, 14] (fun v i wr => ∃ (k : Nat), k ≤ en.length ∧ i = .int .i64 k ∧ Own wr w.heap.size 9 1 encS v (accF l (2 - pl.length) (pl.map tx) en k) ∧ Hid (Below w.heap.size w wr) ∧ Hid (Sl wr encE 2 X en) ∧ Hid (Apart X v) ∧ w2.heap.size ≤ wr.heap.size) (fun _ i _ => en.length - (intOf i).toNat)
          case atStart => exact ⟨0, Nat.zero_le _, rfl, HACC.out, HB.out, HSX.out, HAX.out, Nat.le_refl _⟩
          case round =>
            obtain ⟨k, hk, rfl, hown, HBW, HXW, HAW, hzw⟩ := hrel
            have HWW := Lib.hid hown
            clear hown
            by_cases hlt : k < en.length
            · have hlt' : (k : Int) < (en.length : Int) := by omega
              obtain ⟨b, o, rfl, hc0, hc1⟩ := HXW.out.getE hlt
              have HSW := Lib.hid (HS.out.below HBW.out)
              have HPW := Lib.hid (HPS.out.below HBW.out)
              have hysz := entOk_size (HOK.out _ (List.getElem_mem hlt))
              have HN := Lib.hid (HNX.out k hlt)
              have hla := HLA.out k
              have hIH := fun PA pc pl2 w h => HI.out en[k].2 PA pc pl2 w h
              generalize en[k] = y at *
              obtain ⟨t, a⟩ := y
              simp only at hc0 hc1 hysz
              have hspl := specF_len l a (pl.map tx ++ [tx t])
              have hFM : ((specF l a (pl.map tx ++ [tx t])).map mk).length ≤ 27 := by rw [List.length_map]; exact hspl
              have hIH2 : ∀ (PA : Option Addr) (pc : Nat) (w : World), Sl w encP 2 A l → Sl w encS 1 PA (pl ++ [t]) → (PA = none → pc = 0) → Calls Tryz.prog 32 #[.slice A l.length c, .int .i64 a, .slice PA (pl.length + 1) pc] w (OwnRes 9 1 encS ((specF l a (pl.map tx ++ [tx t])).map mk) w) := fun PA pc w h1 h2 h3 => by
                have h := hIH PA pc (pl ++ [t]) w (by simp) h1 h2 h3 (fun x hx => by
                  rw [List.mem_append, List.mem_singleton] at hx
                  rcases hx with hx | rfl
                  · exact HSZ.out x hx
                  · exact hysz)
                rw [show (pl ++ [t]).map tx = pl.map tx ++ [tx t] by simp, show (pl ++ [t]).length = pl.length + 1 by simp] at h
                exact h
              rw [show tx (t, a).1 = tx t from rfl, show (t, a).2 = a from rfl] at HN
              generalize (specF l a (pl.map tx ++ [tx t])).map mk = FM at *
              unfold OwnRes at hIH2
              have HIX := Lib.hid hIH2
              have HL2 := Lib.hid (show pl.length ≤ 16777216 by omega)
              have HL1 := Lib.hid (show ([] : List ByteArray).length + pl.length ≤ 33554432 by simp; omega)
              have hpw : 3 ^ (2 - pl.length) ≤ 9 := Nat.pow_le_pow_right (n := 3) (by omega) (show 2 - pl.length ≤ 2 by omega)
              have HL3 := Lib.hid (show (accF l (2 - pl.length) (pl.map tx) en k).length + FM.length ≤ 33554432 by omega)
              clear hIH2 hIH hla hspl hFM hpw
              have HCE := Lib.hid (show CellE wr b (o + k * 2) (t, a) from ⟨hc0, hc1⟩)
              have HB0 := Lib.hid (Below.refl wr.heap.size wr).drew
              have HBa := Lib.hid ((Below.refl wr.heap.size wr).alloc (Nat.le_refl _) (.cells #[] 9)).drew
              have HBb := Lib.hid ((Below.refl wr.heap.size wr).alloc (Nat.le_refl _) (rowS t)).drew
              have HBab := Lib.hid (HBa.out.alloc HBa.out.size (rowS t))
              have HBba := Lib.hid (HBb.out.alloc HBb.out.size (.cells #[] 9))
              have HOa := Lib.hid (Own.made (w := wr) (base := wr.heap.size) (enc := encS) (E := 9) (size := 1) (Nat.le_refl wr.heap.size)).drew
              have HOab := Lib.hid (HOa.out.alloc (rowS t))
              have HOba := Lib.hid (own_one wr t)
              have HPa := Lib.hid (HPW.out.below HBa.out)
              have HPab := Lib.hid (HPW.out.below HBab.out)
              have HPba := Lib.hid (HPW.out.below HBba.out)
              have HTab := Lib.hid (strAt_one wr t)
              have HTb := Lib.hid (show StrAt (wr.alloc (rowS t)).drew wr.heap.size t from StrAt.new wr t)
              have HTba := Lib.hid (HTb.out.below ((Below.refl _ _).alloc (Nat.le_refl _) (.cells #[] 9)))
              go_wp2_with fail
              go_region_held3 (fun w' => w'.cell? ⟨b, o + k * 2, none⟩ = some (.string t) ∧ w'.cell? ⟨b, o + k * 2 + 1, none⟩ = some (.int .i64 a))
                (first | assumption | exact HCE.out | exact HCE.out.below HB0.out | exact HCE.out.below HBa.out | exact HCE.out.below HBb.out | exact HCE.out.below HBab.out | exact HCE.out.below HBba.out | exact HCE.out.below HB7.out | exact HCE.out.below HB7b.out | exact HCE.out.below HB8.out | exact HCE.out.below HB9.out | exact HCA.out)
                ((first
                  | (refine step_strK (w0 := wr) (by rfl) rfl HOa.out HBa.out HL1.out HPa.out HCZ.out (by rfl) (by rfl) ?_; intro v7 w7 hown7 hb7 hg7 hk7; have HW7 := Lib.hid ((show Own w7 wr.heap.size 9 1 encS v7 pl from hown7).alloc (rowS t)); have HB7 := Lib.hid hb7; have HB7b := Lib.hid (hb7.alloc hb7.size (rowS t)); have HT7 := Lib.hid (StrAt.new w7 t); clear hown7 hb7 hg7 hk7)
                  | (refine step_strK (w0 := wr) (by rfl) rfl HOab.out HBab.out HL1.out HPab.out HCZ.out (by rfl) (by rfl) ?_; intro v7 w7 hown7 hb7 hg7 hk7; have HW7 := Lib.hid (show Own w7 wr.heap.size 9 1 encS v7 pl from hown7); have HB7b := Lib.hid hb7; have HT7 := Lib.hid (hg7.cell (by intro e; injection e with e; simp at e) HTab.out); clear hown7 hb7 hg7 hk7)
                  | (refine step_strK (w0 := wr) (by rfl) rfl HOba.out HBba.out HL1.out HPba.out HCZ.out (by rfl) (by rfl) ?_; intro v7 w7 hown7 hb7 hg7 hk7; have HW7 := Lib.hid (show Own w7 wr.heap.size 9 1 encS v7 pl from hown7); have HB7b := Lib.hid hb7; have HT7 := Lib.hid (hg7.cell (by intro e; injection e with e; simp at e) HTba.out); clear hown7 hb7 hg7 hk7)
                  | (refine step_str_d (w0 := wr) HW7.out HB7b.out HT7.out HL2.out (by rfl) rfl (by rfl) (by rfl) ?_; intro v8 w8 hown8 hb8; obtain ⟨X8, d8, e8, hle8, hs8, _⟩ := hown8.sl; rw [List.length_append, List.length_singleton] at e8; subst e8; have HS8 := Lib.hid hs8; have HC8 := Lib.hid hown8.cz; have HB8 := Lib.hid hb8; clear hown8 hb8 hs8)
                  | (go_at_call 32; refine (HIX.out _ _ _ (HSW.out.below HB8.out) HS8.out HC8.out).mono ?_; rintro e w9 ⟨v9, rfl, hown9, hb9⟩; obtain ⟨X9, d9, rfl, hle9, hs9, _⟩ := hown9.sl; have HS9 := Lib.hid hs9; have HC9 := Lib.hid hown9.cz; have HB9 := Lib.hid (Below_then HB8.out hb9 (Nat.le_refl _)); have HWA := Lib.hid (HWW.out.below HB9.out); have HBW9 := Lib.hid (Below_then HBW.out HB9.out (Nat.le_refl _)); have HXW9 := Lib.hid (HXW.out.below HB9.out); have HLX9 := Lib.hid (HLX.out.mono (Nat.le_trans hzw HB9.out.size)); have HZ9 := Lib.hid (Nat.le_trans hzw HB9.out.size); clear hown9 hb9 hs9)
                  | (refine step_strK (w0 := w) (by rfl) rfl HWA.out HBW9.out HL3.out HS9.out HC9.out (by rfl) (by rfl) ?_; intro vA wA hownA hbA hgA hkA; have HWF := Lib.hid hownA; have HBF := Lib.hid hbA; have HXF := Lib.hid (HXW9.out.grew hgA HAW.out); have HCA := Lib.hid ((HCE.out.below HB9.out).grew hgA (HAW.out b o rfl)); have HPF := Lib.hid (HAW.out.kin HLX9.out hkA); have HZF := Lib.hid (Nat.le_trans HZ9.out hgA.size); clear hownA hbA hgA hkA)))
              all_goals
                go_wp2
                go_roundw
                case rel => exact ⟨k + 1, by omega, by go_num, by rw [HN.out]; exact HWF.out, HBF.out, HXF.out, HPF.out, HZF.out⟩
                case measure => simp [intOf]; omega
            · have hlt' : ¬ (k : Int) < (en.length : Int) := by omega
              have hke : k = en.length := by omega
              subst hke
              go_wp2
              go_ret
              exact ⟨_, rfl, HWW.out, HBW.out⟩
theorem sl11_all (A : Option Addr) (c : Nat) (l : List Pc) (hv : storeV l = true) : ∀ (f : Nat) (pl : List ByteArray), pl.length + f = 3 → ∀ (p : Int) (PA : Option Addr) (pc : Nat) (w : World), L11 A c l p PA pc pl w
  | 0, pl, hf, p, PA, pc, w => sl11_step A c l hv pl (by omega) (fun h => by omega) p PA pc w
  | f + 1, pl, hf, p, PA, pc, w => sl11_step A c l hv pl (by omega) (fun h p2 PA2 pc2 pl2 w2 h2 => sl11_all A c l hv f pl2 (by omega) p2 PA2 pc2 w2) p PA pc w
set_option maxHeartbeats 4000000 in
set_option maxRecDepth 100000 in
theorem sAllFiles_any (A : Option Addr) (c : Nat) (l : List Pc) (root : Int) (w : World) (hs : Sl w encP 2 A l) (hl : l.length ≤ 16777216) (hf : FitP l) :
    Calls Tryz.prog 14 #[.slice A l.length c, .int .i64 root] w (OwnRes 9 1 encS ((allF l root).map mk) w) := by
  have HS := Lib.hid hs
  have hSV := fun w h => sStoreValid_any A c l w h hl hf
  have HB := Lib.hid (Below.refl w.heap.size w)
  clear hs
  unfold allF
  cases hv : storeV l
  · rw [hv] at hSV
    rw [if_neg (by simp)]
    have HSV := Lib.hid hSV
    clear hSV hv
    go_enter Tryz.func14, Tryz.ntmps14
    go_wp2_with fail
    refine (HSV.out _ HS.out).mono ?_
    rintro e w1 ⟨rfl, hb⟩
    replace HB := Lib.hid (Below_then HB.out hb (Nat.le_refl _))
    clear hb
    have HW := Lib.hid (Own.made (enc := encS) (E := 9) (size := 1) HB.out.size)
    have HB2 := Lib.hid (HB.out.alloc HB.out.size (.cells #[] 9))
    go_wp2
    go_ret
    exact ⟨_, rfl, HW.out, HB2.out⟩
  · rw [if_pos rfl, ← specF_root]
    have hN := fun PA w => sl11_all A c l hv 3 [] rfl root PA 0 w
    unfold L11 at hN
    rw [show ([] : List ByteArray).map tx = [] from rfl] at hN
    rw [hv] at hSV
    generalize (specF l root []).map mk = FM at *
    have HSV := Lib.hid hSV
    have HN := Lib.hid hN
    clear hSV hv hN
    go_enter Tryz.func14, Tryz.ntmps14
    go_wp2_with fail
    refine (HSV.out _ HS.out).mono ?_
    rintro e w1 ⟨rfl, hb⟩
    replace HB := Lib.hid (Below_then HB.out hb (Nat.le_refl _))
    replace HS := Lib.hid (HS.out.below hb)
    clear hb
    have HB2 := Lib.hid (HB.out.alloc HB.out.size (.cells #[] 9))
    have HS2 := Lib.hid (HS.out.alloc (.cells #[] 9))
    go_wp2_with fail
    refine (HN.out _ _ HS2.out Sl.none_ (by intro h; cases h) (by intro x hx; cases hx)).mono ?_
    rintro e w2 ⟨v2, rfl, hown2, hb2⟩
    have HW2 := Lib.hid (hown2.mono HB2.out.size)
    have HB3 := Lib.hid (Below_then HB2.out hb2 (Nat.le_refl _))
    clear hown2 hb2
    go_wp2
    go_ret
    exact ⟨_, rfl, HW2.out, HB3.out⟩
end Go.Proofs.YtokelopllbaikaaGreatDoor
