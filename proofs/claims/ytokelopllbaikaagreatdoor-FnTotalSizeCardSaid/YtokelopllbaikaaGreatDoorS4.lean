/- Drawn stores: paths, contents, steps, stores; BundlePrint's and BundleLines' inputs. -/
import Derived.Test.YtokelopllbaikaaGreatDoorS3
import Derived.Test.YtokelopllbaikaaGreatDoorGb7
import Derived.Test.YtokelopllbaikaaGreatDoorGa4
import Derived.Test.YtokelopllbaikaaGreatDoorGa8
set_option linter.unusedVariables false
namespace Go.Proofs.YtokelopllbaikaaGreatDoor
open Go.RowKit
/-- One cell of an element of an owned row written anew. -/
theorem Own.setOne {α : Type} {enc : α → List Value} {w : World} {base size : Nat} {E : TypeId} {g n cap : Nat} {l : List α} (h : Own w base E size enc (.slice (some ⟨g, 0, none⟩) n cap) l) (he : ∀ x, (enc x).length = size) (hsz : 0 < size) {i j : Nat} (hi : i < l.length) (hj : j < size) {x : α} {u : Value} (hu : (enc x)[j]? = some u) (hx : ∀ k, k ≠ j → (enc x)[k]? = (enc l[i])[k]?) :
    Own (w.setCell ⟨g, i * size + j, none⟩ u) base E size enc (.slice (some ⟨g, 0, none⟩) n cap) (l.set i x) := by
  rcases h.2 with ⟨hv, hn⟩ | ⟨g', cap', cur, hv, hg, hh, hnc, hcm, hs, ht⟩
  · injection hv with e; cases e
  · injection hv with e1 e2 e3
    injection e1 with e1; injection e1 with e1
    subst e1 e2 e3
    obtain ⟨cs', h1, h2, h3⟩ := setAll_cells (m := (0, 0)) [u] w (i * size + j) cur hh
    refine ⟨flat_length he _, .inr ⟨g, cap, cs', by rw [List.length_set], hg, h1, by rw [List.length_set]; exact hnc, hcm, by rw [h2]; exact hs, ?_⟩⟩
    have hlen : (flat enc (l.set i x)).length = l.length * size := by rw [flat_length he, List.length_set]
    have hls : l.length * size ≤ cur.size := by rw [hs]; exact Nat.mul_le_mul_right _ hnc
    have hi2 : i * size + size ≤ l.length * size := by
      have := Nat.mul_le_mul_right size (show i + 1 ≤ l.length from hi)
      rwa [Nat.succ_mul] at this
    have h0 : (flat enc l).length = l.length * size := flat_length he l
    rw [List.length_set]
    apply List.ext_getElem?
    intro p
    by_cases hp : p < l.length * size
    · rw [List.getElem?_take_of_lt hp, Array.getElem?_toList, h3 p]
      rw [List.length_singleton]
      have hq : p / size < l.length := Nat.div_lt_of_lt_mul (by rwa [Nat.mul_comm] at hp)
      have hdm : p / size * size + p % size = p := by rw [Nat.mul_comm]; exact Nat.div_add_mod p size
      have hms := Nat.mod_lt p hsz
      have hg2 := flat_get he (l.set i x) (p / size) (by rw [List.length_set]; exact hq) (p % size) hms
      rw [hdm] at hg2
      rw [hg2, List.getElem_set]
      by_cases hqi : i = p / size
      · subst hqi
        rw [if_pos rfl]
        by_cases hpj : p % size = j
        · rw [if_pos (by omega), hpj, hu, show p - (p / size * size + j) = 0 by omega]; rfl
        · rw [if_neg (by omega), hx _ hpj]
          have hg3 := flat_get he l (p / size) hq (p % size) hms
          rw [hdm] at hg3
          rw [← hg3]
          have this : (cur.toList.take (l.length * size))[p]? = (flat enc l)[p]? := by rw [ht]
          rw [List.getElem?_take_of_lt hp, Array.getElem?_toList] at this
          exact this
      · rw [if_neg hqi, if_neg]
        · have hg3 := flat_get he l (p / size) hq (p % size) hms
          rw [hdm] at hg3
          rw [← hg3]
          have this : (cur.toList.take (l.length * size))[p]? = (flat enc l)[p]? := by rw [ht]
          rw [List.getElem?_take_of_lt hp, Array.getElem?_toList] at this
          exact this
        · intro hh
          apply hqi
          have a1 : i ≤ p / size := (Nat.le_div_iff_mul_le hsz).2 (by omega)
          have a2 : p / size < i + 1 := Nat.div_lt_of_lt_mul (by rw [Nat.mul_comm, Nat.succ_mul]; omega)
          omega
    · rw [List.getElem?_eq_none (by simp; omega), List.getElem?_eq_none (by omega)]
theorem Own.setPrint {w : World} {base : Nat} {E : TypeId} {g n cap : Nat} {l : List Pc} (h : Own w base E 2 encP (.slice (some ⟨g, 0, none⟩) n cap) l) {i : Nat} (hi : i < l.length) (p : Int) :
    Own (w.setCell ⟨g, i * 2, none⟩ (.int .i64 p)) base E 2 encP (.slice (some ⟨g, 0, none⟩) n cap) (l.set i (p, l[i].2)) :=
  h.setOne (fun _ => rfl) (by omega) (j := 0) hi (by omega) rfl (fun k hk => by
    match k with
    | 0 => exact absurd rfl hk
    | k + 1 => rfl)
theorem Own.setText {w : World} {base : Nat} {E : TypeId} {g n cap : Nat} {l : List Pc} (h : Own w base E 2 encP (.slice (some ⟨g, 0, none⟩) n cap) l) {i : Nat} (hi : i < l.length) (t : ByteArray) :
    Own (w.setCell ⟨g, i * 2 + 1, none⟩ (.string t)) base E 2 encP (.slice (some ⟨g, 0, none⟩) n cap) (l.set i (l[i].1, t)) :=
  h.setOne (fun _ => rfl) (by omega) (j := 1) hi (by omega) rfl (fun k hk => by
    match k with
    | 0 => rfl
    | 1 => exact absurd rfl hk
    | k + 2 => rfl)
def paths8 : List Bs := [47] :: paths7
def pathB : Value → Bool | .string s => decide (bs s ∈ paths8) | _ => false
def contB : Value → Bool | .string s => decide (bs s ∈ conts4) | _ => false
def PathV (v : Value) : Prop := ∃ s : ByteArray, v = .string s ∧ bs s ∈ paths8
def ContV (v : Value) : Prop := ∃ s : ByteArray, v = .string s ∧ bs s ∈ conts4
theorem pathB_iff {v : Value} (h : pathB v = true) : PathV v := by
  unfold pathB at h; split at h
  · exact ⟨_, rfl, of_decide_eq_true h⟩
  · cases h
theorem contB_iff {v : Value} (h : contB v = true) : ContV v := by
  unfold contB at h; split at h
  · exact ⟨_, rfl, of_decide_eq_true h⟩
  · cases h
theorem lit_chk {w w1 : World} {g : Nat} {cs : Array Value} {E : TypeId} {k : Nat} (chk : Value → Bool) (ho : Only g (w.alloc (.cells cs E)) w1) (hg : g < w.heap.size) (hk : k < cs.size) (hc : cs.toList.all chk = true) : ∃ u, w1.cell? ⟨w.heap.size, k, none⟩ = some u ∧ chk u = true :=
  ⟨cs[k], lit_cell ho hg (Array.getElem?_eq_getElem hk), List.all_eq_true.1 hc _ (by simp)⟩
theorem paths8_len : ∀ p ∈ paths8, p.length ≤ 6 := by decide
theorem conts4_len : ∀ p ∈ conts4, p.length ≤ 9 := by decide
theorem path_size {s : ByteArray} (h : bs s ∈ paths8) : s.size ≤ 6 := by rw [← size_bs]; exact paths8_len _ h
theorem cont_size {s : ByteArray} (h : bs s ∈ conts4) : s.size ≤ 9 := by rw [← size_bs]; exact conts4_len _ h
set_option maxHeartbeats 2000000 in
set_option maxRecDepth 100000 in
theorem l20Path_zero (g p : Nat) (w : World) (hr : Rdr w g p) (hp : p ≤ 900000000) :
    Calls Tryz.prog 54 #[.pointer (some ⟨g, 0, none⟩), .int .i64 0] w (Drew PathV 1 w g p) := by
  have HR := Lib.hid hr
  clear hr
  go_enter Tryz.func54, Tryz.ntmps54
  go_wp2_with fail
  refine (odd0_any _ _ _ HR.out (by omega)).mono ?_
  rintro e w1 ⟨rfl, rfl⟩
  go_wp2_with fail
  refine (pick_int 13 0 7 (HR.out.alloc _) (by omega) rfl (by omega) (by omega) (by decide)).mono ?_
  rintro e w2 ⟨x, m, rfl, hx, hc, hm0, hm7, ho2, hr2⟩
  obtain ⟨N, rfl⟩ := Int.eq_ofNat_of_zero_le hm0
  have hN : N < 8 := by omega
  have hcc : w2.cell? ⟨w.heap.size + 1, x, none⟩ = some (.int .i64 (N : Int)) := by simpa using hc
  clear hc
  obtain ⟨u, hcs, hu⟩ := lit_chk (k := N) pathB ho2 HR.out.lt hN (by decide +kernel)
  obtain ⟨s, rfl, hs⟩ := pathB_iff hu
  have HR2 := Lib.hid hr2
  have HS := Lib.hid hs
  have HO2 := Lib.hid ((Only.of_below ((Below.refl w.heap.size w).alloc (Nat.le_refl _) _)).trans ho2)
  clear hr2 ho2 hu hs
  go_wp2_with fail
  go_ret
  exact ⟨_, _, rfl, ⟨_, rfl, HS.out⟩, HO2.out, HR2.out, by omega⟩
set_option maxHeartbeats 2000000 in
set_option maxRecDepth 100000 in
theorem l20Content_any (g p : Nat) (w : World) (hr : Rdr w g p) (hp : p ≤ 900000000) :
    Calls Tryz.prog 108 #[.pointer (some ⟨g, 0, none⟩)] w (Drew ContV 1 w g p) := by
  have HR := Lib.hid hr
  clear hr
  go_enter Tryz.func108, Tryz.ntmps108
  go_wp2_with fail
  refine (pick_lit 4 contB HR.out (by omega) rfl (by omega) (by omega) (by decide +kernel)).mono ?_
  rintro e w2 ⟨x, u, rfl, hx, hc, hu, ho2, hr2⟩
  obtain ⟨s, rfl, hs⟩ := contB_iff hu
  have HR2 := Lib.hid hr2
  have HO2 := Lib.hid ho2
  have HS := Lib.hid hs
  clear hr2 ho2 hs hu
  go_wp2_with fail
  go_ret
  exact ⟨_, _, rfl, ⟨_, rfl, HS.out⟩, HO2.out, HR2.out, by omega⟩
/-- A step of a drawn store. -/
def StepRes (base g p : Nat) (l : List Pc) (root : Int) (w : World) (e : Ending) (w' : World) : Prop :=
  ∃ (v : Value) (l' : List Pc) (r' : Int) (b : Bool) (p' : Nat), e = .returned (.tuple #[v, .int .i64 r', .bool b]) ∧ Own w' base 38 2 encP v l' ∧ StepS l root l' r' ∧ Only g w w' ∧ Rdr w' g p' ∧ p' ≤ p + 3
set_option maxHeartbeats 4000000 in
set_option maxRecDepth 100000 in
theorem l20Step_any (base g p : Nat) (v : Value) (l : List Pc) (root : Int) (w : World) (hr : Rdr w g p) (hp : p ≤ 800000000) (hg : g < base) (hbase : base ≤ w.heap.size) (hown : Own w base 38 2 encP v l) (hv : storeV l = true) :
    Calls Tryz.prog 81 #[.pointer (some ⟨g, 0, none⟩), v, .int .i64 root] w (StepRes base g p l root w) := by
  have HR := Lib.hid hr
  have HW := Lib.hid hown
  have HV := Lib.hid hv
  have hl40 := storeV_len hv
  clear hr hown hv
  go_enter Tryz.func81, Tryz.ntmps81
  go_wp2_with fail
  refine (l20Path_zero _ _ _ HR.out (by omega)).mono ?_
  rintro e w1 ⟨v1, p1, rfl, ⟨s, rfl, hs⟩, ho1, hr1, hp1⟩
  have HR1 := Lib.hid hr1
  have HO1 := Lib.hid ho1
  have HW1 := Lib.hid (HW.out.only ho1 hg)
  have hsz := path_size hs
  clear hr1 ho1
  cases hq : (s.toList == [47])
  case true =>
    go_wp2
    go_ret3
    exact ⟨_, l, root, _, p1, rfl, HW1.out, .inl ⟨rfl, rfl⟩, HO1.out, HR1.out, by omega⟩
  case false =>
    have HP7 := Lib.hid (show bs s ∈ paths7 by
      rcases List.mem_cons.1 hs with h | h
      · rw [ByteArray.toList_eq] at hq
        change (bs s == [47]) = false at hq
        rw [h] at hq; cases hq
      · exact h)
    clear hs
    go_wp2_with fail
    refine (pick_any 5 _ _ _ HR1.out (by omega) (by omega)).mono ?_
    rintro e w2 ⟨x, rfl, hx, ho2, hr2⟩
    have HR2 := Lib.hid hr2
    have HO2 := Lib.hid (HO1.out.trans ho2)
    have HW2 := Lib.hid (HW1.out.only ho2 hg)
    have hz2 := Nat.le_trans hbase HO2.out.size
    clear hr2 ho2
    obtain ⟨A, c, rfl, hle, hsl, _⟩ := HW2.out.sl
    have HSL := Lib.hid hsl
    have HC := Lib.hid HW2.out.cz
    clear hsl
    by_cases hx0 : x = 0
    · have hx0' : ((x : Int) == 0) = true := by rw [beq_iff_eq]; omega
      have hD := fun w h => sDropAt_any A c l root s w h HC.out hle (by omega) (fit_store HV.out) (by omega)
      have HST := Lib.hid (fun l' r' b (h : dropA l root (bs s) = (l', r', b)) => show StepS l root l' r' from .inr ⟨bs s, HP7.out, .inl ⟨b, h⟩⟩)
      unfold PutRes at hD
      generalize dropA l root (bs s) = R at *
      obtain ⟨R1, R2, R3⟩ := R
      simp only at hD
      have HD := Lib.hid hD
      clear hD
      go_wp2_with fail
      refine (HD.out _ HSL.out).mono ?_
      rintro e w3 ⟨v3, rfl, hown3, hb3⟩
      have HW3 := Lib.hid (hown3.mono hz2)
      have HO3 := Lib.hid (HO2.out.trans (Only.of_below hb3))
      have HR3 := Lib.hid (HR2.out.below hb3)
      clear hown3 hb3
      go_wp2
      go_ret3
      exact ⟨_, R1, R2, _, _, rfl, HW3.out, HST.out _ _ _ rfl, HO3.out, HR3.out, by omega⟩
    · have hx0' : ((x : Int) == 0) = false := by rw [beq_eq_false_iff_ne]; omega
      go_wp2_with fail
      refine (l20Content_any _ _ _ HR2.out (by omega)).mono ?_
      rintro e w4 ⟨v4, p4, rfl, ⟨ct, rfl, hct⟩, ho4, hr4, hp4⟩
      have HR4 := Lib.hid hr4
      have HO4 := Lib.hid (HO2.out.trans ho4)
      have HSL4 := Lib.hid ((HW2.out.only ho4 hg).sl')
      have hcz := cont_size hct
      have hz4 := Nat.le_trans hbase HO4.out.size
      have hD := fun w h => sWriteAt_any A c l root s ct w h HC.out hle (by omega) (fit_store HV.out) (by omega) (by omega)
      have HST := Lib.hid (fun l' r' b (h : writeA l root (bs s) (bs ct) = (l', r', b)) => show StepS l root l' r' from .inr ⟨bs s, HP7.out, .inr ⟨bs ct, hct, b, h⟩⟩)
      unfold PutRes at hD
      generalize writeA l root (bs s) (bs ct) = R at *
      obtain ⟨R1, R2, R3⟩ := R
      simp only at hD
      have HD := Lib.hid hD
      clear hD hr4 ho4 hct
      go_wp2_with fail
      refine (HD.out _ HSL4.out).mono ?_
      rintro e w3 ⟨v3, rfl, hown3, hb3⟩
      have HW3 := Lib.hid (hown3.mono hz4)
      have HO3 := Lib.hid (HO4.out.trans (Only.of_below hb3))
      have HR3 := Lib.hid (HR4.out.below hb3)
      clear hown3 hb3
      go_wp2
      go_ret3
      exact ⟨_, R1, R2, _, _, rfl, HW3.out, HST.out _ _ _ rfl, HO3.out, HR3.out, by omega⟩
/-- What is known of a drawn store. -/
structure StOk (n : Int) (l : List Pc) (root : Int) : Prop where
  good : storeV l = true → Good NoZ l
  fit : ∀ q ∈ l, q.2.size ≤ 60
  len : l.length ≤ 41
  pos : 0 < l.length
  drawn : n = 0 → ∃ k, k ≤ 5 ∧ DrawnS k l root
theorem drawnS_pos {k : Nat} {s : List Pc} {r : Int} (h : DrawnS k s r) : 0 < s.length := by
  induction h with
  | base => decide +kernel
  | @step k s s' r r' hd hst ih =>
    obtain ⟨hs, _⟩ := drawnS_ok hd
    have key : ∀ {s' : List Pc}, Keep s s' → 0 < s'.length := fun {s'} hk => by
      obtain ⟨p, t⟩ : ∃ p, p ∈ s := ⟨_, List.getElem_mem ih⟩
      have hg : getT s p.1 = some p.2 := getT_mem (storeV_sorted hs) t
      have := getT_some (hk _ _ hg)
      exact List.length_pos_of_mem this
    rcases hst with ⟨rfl, rfl⟩ | ⟨path, hp, ⟨b, h⟩ | ⟨c, hc, b, h⟩⟩
    · exact ih
    · cases b
      · obtain ⟨rfl, rfl⟩ := dropA_no hs hp h; exact ih
      · exact key (drop_chg h).keep
    · cases b
      · obtain ⟨rfl, rfl⟩ := writeA_no hs hp hc h; exact ih
      · exact key (write_chg h).keep
theorem store_fit60 {l : List Pc} (h : storeV l = true) : ∀ q ∈ l, q.2.size ≤ 60 := fun q hq => textV_size (pieceOk_iff.1 (storeV_piece h hq)).1
theorem StOk.of {n : Int} {k : Nat} {l : List Pc} {root : Int} (hk : k ≤ 5) (h : DrawnS k l root) : StOk n l root := by
  obtain ⟨h1, h2⟩ := drawnS_ok h
  exact ⟨fun _ => h2, store_fit60 h1, by have := storeV_len h1; omega, drawnS_pos h, fun _ => ⟨k, hk, h⟩⟩
/-- A drawn store with its root. -/
def StoreRes (n : Int) (w : World) (g p : Nat) (e : Ending) (w' : World) : Prop :=
  ∃ (v : Value) (l : List Pc) (root : Int) (p' : Nat), e = .returned (.tuple #[v, .int .i64 root]) ∧ Own w' w.heap.size 38 2 encP v l ∧ StOk n l root ∧ Only g w w' ∧ Rdr w' g p' ∧ p' ≤ p + 30
def turnedT : ByteArray := ⟨#[116, 117, 114, 110, 101, 100]⟩
theorem turnedT_no : readF (tx turnedT) = none := by decide +kernel
theorem fit_set {l : List Pc} (h : ∀ q ∈ l, q.2.size ≤ 60) {k : Nat} {x : Pc} (hx : x.2.size ≤ 60) : ∀ q ∈ l.set k x, q.2.size ≤ 60 := fun q hq => by
  rcases List.mem_or_eq_of_mem_set hq with h1 | rfl
  · exact h q h1
  · exact hx
theorem StOk.print {n : Int} {k : Nat} {l : List Pc} {root : Int} {i : Nat} (hi : i < l.length) {p : Int} (hn : n ≠ 0) (h : DrawnS k l root) : StOk n (l.set i (p, l[i].2)) root := by
  obtain ⟨h1, h2⟩ := drawnS_ok h
  have hl := storeV_len h1
  refine ⟨fun hv => ?_, fit_set (store_fit60 h1) (show l[i].2.size ≤ 60 from store_fit60 h1 _ (List.getElem_mem hi)), by rw [List.length_set]; omega, by rw [List.length_set]; omega, fun h => absurd h hn⟩
  rw [turned_print hi h1 hv]; exact h2
theorem StOk.text {n : Int} {k : Nat} {l : List Pc} {root : Int} {i : Nat} (hi : i < l.length) (hn : n ≠ 0) (h : DrawnS k l root) : StOk n (l.set i (l[i].1, turnedT)) root := by
  obtain ⟨h1, h2⟩ := drawnS_ok h
  have hl := storeV_len h1
  exact ⟨fun hv => turned_text hi h1 h2 turnedT_no hv, fit_set (store_fit60 h1) (show turnedT.size ≤ 60 by decide), by rw [List.length_set]; omega, by rw [List.length_set]; omega, fun h => absurd h hn⟩
theorem StOk.twice {n : Int} {k : Nat} {l : List Pc} {root : Int} (hi : 0 < l.length) (hn : n ≠ 0) (h : DrawnS k l root) : StOk n (l ++ [l[0]]) root := by
  obtain ⟨h1, h2⟩ := drawnS_ok h
  have hl := storeV_len h1
  refine ⟨fun hv => ?_, fun q hq => ?_, by rw [List.length_append, List.length_singleton]; omega, by rw [List.length_append, List.length_singleton]; omega, fun h => absurd h hn⟩
  · rw [twice_bad (List.length_pos_iff.1 hi)] at hv; cases hv
  · rcases List.mem_append.1 hq with h | h
    · exact store_fit60 h1 q h
    · rw [List.mem_singleton] at h; subst h; exact store_fit60 h1 _ (List.getElem_mem hi)
/-! ### one piece more, in whatever order -/
abbrev rowPc (y : Pc) : Obj := .cells #[.int .i64 y.1, .string y.2] 38
abbrev madePc : Obj := .cells #[] 38
def RowPc (w : World) (g : Nat) (y : Pc) : Prop := w.cell? ⟨g, 0, none⟩ = some (.int .i64 y.1) ∧ w.cell? ⟨g, 1, none⟩ = some (.string y.2)
theorem RowPc.new (w : World) (y : Pc) : RowPc (w.alloc (rowPc y)) w.heap.size y := ⟨new_cell rfl, new_cell rfl⟩
theorem RowPc.alloc {w : World} {g : Nat} {y : Pc} (h : RowPc w g y) (x : Obj) : RowPc (w.alloc x) g y := ⟨cell_alloc h.1, cell_alloc h.2⟩
theorem RowPc.grew {w w' : World} {g : Nat} {y : Pc} {v : Value} (h : RowPc w g y) (hg : Grew v w w') (hv : v.ownBlock ≠ some g) : RowPc w' g y := ⟨hg.cell hv h.1, hg.cell hv h.2⟩
theorem RowPc.below {w w' : World} {g : Nat} {y : Pc} (h : RowPc w g y) (hb : Below w.heap.size w w') : RowPc w' g y := ⟨Below_cells hb _ _ _ h.1, Below_cells hb _ _ _ h.2⟩
section
variable {ops : Array Oper} {rest : List Oper} {o : Oper} {a : Act} {K : Act → World → Prop} {Q : Exit → Act → World → Prop} {E' : Prop} {w0 w1 wr : World} {l m : List Pc} {A : Option Addr} {c : Nat} {y : Pc} {s x : Operand} {v : Value}
theorem step_pqN {l m : List Pc} (hgd : o.guard = none) (ho : o.op = .call { callee := .builtin .append, args := #[s, x], argTypes := #[23, 23] })
    (hown : Own wr w0.heap.size 38 2 encP v l) (hb : Below w0.heap.size w0 wr) (hn : l.length + m.length ≤ 33554432) (hsl : Sl wr encP 2 A m) (hcz : A = none → c = 0)
    (hs : a.eval s = v) (hx : a.eval x = .slice A m.length c)
    (h : ∀ v' w', Own w' w0.heap.size 38 2 encP v' (l ++ m) → Below w0.heap.size w0 w' → Grew v wr w' → K (a.put o.dst v') w') : if Region.wanted o (yielded ops a.tmps) = true then Oper.wp Tryz.prog o a wr K Q else E' := by
  obtain ⟨i0, hi0, hz0, hz1, hz2⟩ := info_parts pc_info
  exact step_appN Tryz.underlying23 hi0 hz0 hz1 hz2 rfl (by decide) (by decide) hgd s x ho hown hb (Nat.le_refl _) hb.size hn hsl hcz (fun _ => rfl) oneP hs hx h
theorem step_pq {g : Nat} (hgd : o.guard = none) (ho : o.op = .call { callee := .builtin .append, args := #[s, x], argTypes := #[23, 23] })
    (hown : Own wr w0.heap.size 38 2 encP v l) (hb : Below w0.heap.size w0 wr) (hn : l.length ≤ 16777216) (hr : RowPc wr g y)
    (hs : a.eval s = v) (hx : a.eval x = .slice (some ⟨g, 0, none⟩) 1 1)
    (h : ∀ v' w', Own w' w0.heap.size 38 2 encP v' (l ++ [y]) → Below w0.heap.size w0 w' → K (a.put o.dst v') w') : if Region.wanted o (yielded ops a.tmps) = true then Oper.wp Tryz.prog o a wr K Q else E' := by
  obtain ⟨i0, hi0, hz0, hz1, hz2⟩ := info_parts pc_info
  exact step_app1 Tryz.underlying23 hi0 hz0 hz1 hz2 rfl (by decide) (by decide) hgd s x ho hs hx hown hb (Nat.le_refl _) hb.size hn y (by
    intro j u hu
    have hj : j < 2 := by have := (List.getElem?_eq_some_iff.1 hu).1; simp [encP] at this; omega
    match j, hj with
    | 0, _ => simp [encP] at hu; rw [← hu]; exact hr.1
    | 1, _ => simp [encP] at hu; rw [← hu]; exact hr.2) rfl (oneP y) h
theorem step_pq_a (hsl : Sl w1 encP 2 A l) (hcz : A = none → c = 0) (hl : l.length ≤ 16777216) (hgd : o.guard = none) (ho : o.op = .call { callee := .builtin .append, args := #[s, x], argTypes := #[23, 23] })
    (hs : a.eval s = .slice (some ⟨w1.heap.size, 0, none⟩) 0 0) (hx : a.eval x = .slice A l.length c)
    (h : ∀ v' w', Own w' w1.heap.size 38 2 encP v' l → Below w1.heap.size w1 w' → K (a.put o.dst v') w') : if Region.wanted o (yielded ops a.tmps) = true then Oper.wp Tryz.prog o a (w1.alloc madePc).drew K Q else E' :=
  step_pqN (w0 := w1) (l := []) hgd ho ((Own.made (w := w1) (Nat.le_refl _)).drew) (((Below.refl _ _).alloc (Nat.le_refl _) _).drew) (by simp; omega) ((hsl.alloc _).drew) hcz hs hx fun v' w' h1 h2 _ => h v' w' h1 h2
theorem step_pq_b (hsl : Sl w1 encP 2 A l) (hcz : A = none → c = 0) (hl : l.length ≤ 16777216) (hgd : o.guard = none) (ho : o.op = .call { callee := .builtin .append, args := #[s, x], argTypes := #[23, 23] })
    (hs : a.eval s = .slice (some ⟨w1.heap.size, 0, none⟩) 0 0) (hx : a.eval x = .slice A l.length c)
    (h : ∀ v' w', Own w' w1.heap.size 38 2 encP v' l → Below w1.heap.size w1 w' → RowPc w' (w1.heap.size + 1) y → K (a.put o.dst v') w') : if Region.wanted o (yielded ops a.tmps) = true then Oper.wp Tryz.prog o a ((w1.alloc madePc).alloc (rowPc y)).drew K Q else E' := by
  have hz : w1.heap.size ≤ (w1.alloc madePc).heap.size := by simp
  have hr := RowPc.new (w1.alloc madePc) y
  have hzz : (w1.alloc madePc).heap.size = w1.heap.size + 1 := by simp
  rw [hzz] at hr
  exact step_pqN (w0 := w1) (l := []) hgd ho (((Own.made (w := w1) (Nat.le_refl _)).alloc _).drew) ((((Below.refl _ _).alloc (Nat.le_refl _) _).alloc hz _).drew) (by simp; omega) (((hsl.alloc _).alloc _).drew) hcz hs hx fun v' w' h1 h2 h3 => h v' w' h1 h2 (RowPc.grew (w := ((w1.alloc madePc).alloc (rowPc y)).drew) hr h3 (by simp [Value.ownBlock]))
theorem step_pq_c (hsl : Sl w1 encP 2 A l) (hcz : A = none → c = 0) (hl : l.length ≤ 16777216) (hgd : o.guard = none) (ho : o.op = .call { callee := .builtin .append, args := #[s, x], argTypes := #[23, 23] })
    (hs : a.eval s = .slice (some ⟨w1.heap.size + 1, 0, none⟩) 0 0) (hx : a.eval x = .slice A l.length c)
    (h : ∀ v' w', Own w' w1.heap.size 38 2 encP v' l → Below w1.heap.size w1 w' → RowPc w' w1.heap.size y → K (a.put o.dst v') w') : if Region.wanted o (yielded ops a.tmps) = true then Oper.wp Tryz.prog o a ((w1.alloc (rowPc y)).alloc madePc).drew K Q else E' := by
  have hz : w1.heap.size ≤ (w1.alloc (rowPc y)).heap.size := by simp
  have hr := (RowPc.new w1 y).alloc madePc
  have hm := (Own.made (enc := encP) (E := 38) (size := 2) (w := w1.alloc (rowPc y)) hz).drew
  have hzz : (w1.alloc (rowPc y)).heap.size = w1.heap.size + 1 := by simp
  rw [hzz] at hm
  exact step_pqN (w0 := w1) (l := []) hgd ho hm ((((Below.refl _ _).alloc (Nat.le_refl _) _).alloc hz _).drew) (by simp; omega) (((hsl.alloc _).alloc _).drew) hcz hs hx fun v' w' h1 h2 h3 => h v' w' h1 h2 (RowPc.grew (w := ((w1.alloc (rowPc y)).alloc madePc).drew) hr h3 (by simp [Value.ownBlock]))
end
theorem firstRow {w : World} {G : Nat} {l : List Pc} (h : Sl w encP 2 (some ⟨G, 0, none⟩) l) (hl : 0 < l.length) : RowPc w G l[0] := by
  obtain ⟨b, o, e, hc0, hc1⟩ := h.getP hl
  injection e with e; injection e with e1 e2
  subst e1; subst e2
  exact ⟨by simpa using hc0, by simpa using hc1⟩
theorem rowAt {w : World} {G i : Nat} {l : List Pc} (h : Sl w encP 2 (some ⟨G, 0, none⟩) l) (hl : i < l.length) : w.cell? ⟨G, i * 2, none⟩ = some (.int .i64 l[i].1) ∧ w.cell? ⟨G, i * 2 + 1, none⟩ = some (.string l[i].2) := by
  obtain ⟨b, o, e, hc0, hc1⟩ := h.getP hl
  injection e with e; injection e with e1 e2
  subst e1; subst e2
  exact ⟨by simpa using hc0, by simpa using hc1⟩
set_option maxHeartbeats 4000000 in
set_option maxRecDepth 100000 in
theorem l20Store_any (n : Int) (g p : Nat) (w : World) (hr : Rdr w g p) (hp : p ≤ 700000000) (hn : n ≤ 1000000000) :
    Calls Tryz.prog 49 #[.pointer (some ⟨g, 0, none⟩), .int .i64 n] w (StoreRes n w g p) := by
  have HR := Lib.hid hr
  have hlt := hr.lt
  clear hr
  have hER := fun g2 w => sEmptyRoot_any (some ⟨g2, 0, none⟩) 0 [] w (Sl.gone rfl) (by intro h; cases h) (Nat.le_refl _) (by simp) (by intro q hq; cases hq)
  unfold PutRes at hER
  simp only [List.length_nil] at hER
  have hbase := DrawnS.base
  generalize putT [] foldE = R at *
  obtain ⟨R1, R2, R3⟩ := R
  simp only at hER hbase
  have HBASE := Lib.hid hbase
  have HER := Lib.hid hER
  clear hER hbase
  go_enter Tryz.func49, Tryz.ntmps49
  go_wp2_with fail
  refine (HER.out _ _).mono ?_
  rintro e w1 ⟨v1, rfl, hown1, hb1⟩
  have HB1 := Lib.hid (Below_of_alloc hb1)
  have HW1 := Lib.hid (hown1.mono (show w.heap.size ≤ _ by simp))
  have HR1 := Lib.hid (HR.out.below HB1.out)
  have HO1 := Lib.hid (Only.of_below (g := g) HB1.out)
  clear hown1 hb1
  go_wp2_with fail
  refine (pick_any 6 _ _ _ HR1.out (by omega) (by omega)).mono ?_
  rintro e w2 ⟨a, rfl, ha, ho2, hr2⟩
  have ha' : a ≤ 5 := by omega
  have HR2 := Lib.hid hr2
  have HO2 := Lib.hid (HO1.out.trans ho2)
  have HW2 := Lib.hid (HW1.out.only ho2 hlt)
  clear hr2 ho2 ha
  go_wp2_with fail
  go_loopw [6, 7, 9] (fun vs vr vk wr => ∃ (j : Nat) (l : List Pc) (root : Int) (p1 k : Nat), vk = .int .i64 j ∧ vr = .int .i64 root ∧ j + k ≤ 5 ∧ Hid (DrawnS k l root) ∧ Hid (Own wr w.heap.size 38 2 encP vs l) ∧ Hid (Only g w wr) ∧ Hid (Rdr wr g p1) ∧ p1 + 3 * j ≤ p + 16) (fun _ _ vk _ => (intOf vk).toNat)
  case atStart => exact ⟨a, R1, R2, p + 1, 0, rfl, rfl, by omega, HBASE.out, HW2.out, HO2.out, HR2.out, by omega⟩
  case round =>
    obtain ⟨j, l, root, p1, k, rfl, rfl, hjk, HD, HW3, HO3, HR3, hp1⟩ := hrel
    have hv := (drawnS_ok HD.out).1
    by_cases hj : 0 < j
    · have hj' : (0 : Int) < (j : Int) := by omega
      go_wp2_with fail
      refine (l20Step_any w.heap.size g p1 _ l root _ HR3.out (by omega) hlt HO3.out.size HW3.out hv).mono ?_
      rintro e w4 ⟨v4, l4, r4, b4, p4, rfl, hown4, hst, ho4, hr4, hp4⟩
      have HW4 := Lib.hid hown4
      have HO4 := Lib.hid (HO3.out.trans ho4)
      have HR4 := Lib.hid hr4
      have HST := Lib.hid hst
      clear hown4 ho4 hr4 hst
      go_wp2
      go_roundw
      case rel => exact ⟨j - 1, l4, r4, p4, k + 1, by go_num, rfl, by omega, .step HD.out HST.out, HW4.out, HO4.out, HR4.out, by omega⟩
      case measure => simp [intOf]; omega
    · obtain rfl : j = 0 := by omega
      by_cases hn0 : n = 0
      · subst hn0
        go_wp2_with fail
        refine (odd0_any _ _ _ HR3.out (by omega)).mono ?_
        rintro e w4 ⟨rfl, rfl⟩
        go_wp2
        go_ret2
        exact ⟨_, l, root, p1, rfl, HW3.out, StOk.of (by omega) HD.out, HO3.out, HR3.out, by omega⟩
      · go_wp2_with fail
        refine (odd_any _ _ _ _ HR3.out (by omega) hn).mono ?_
        rintro e w4 ⟨b4, p4, rfl, ho4, hr4, hp4⟩
        have HW4 := Lib.hid (HW3.out.only ho4 hlt)
        have HO4 := Lib.hid (HO3.out.trans ho4)
        have HR4 := Lib.hid hr4
        clear ho4 hr4
        cases b4
        · go_wp2
          go_ret2
          exact ⟨_, l, root, p4, rfl, HW4.out, StOk.of (by omega) HD.out, HO4.out, HR4.out, by omega⟩
        · go_wp2_with fail
          refine (pick_any 3 _ _ _ HR4.out (by omega) (by omega)).mono ?_
          rintro e w5 ⟨x, rfl, hx, ho5, hr5⟩
          have HW5 := Lib.hid (HW4.out.only ho5 hlt)
          have HO5 := Lib.hid (HO4.out.trans ho5)
          have HR5 := Lib.hid hr5
          clear ho5 hr5
          have hpos := drawnS_pos HD.out
          have hl40 := storeV_len hv
          have hz5 := HO5.out.size
          obtain ⟨G, cap, rfl, hG, hcap, hcm, _⟩ := HW5.out.row hpos
          have HSL := Lib.hid HW5.out.sl'
          have hx3 : x = 0 ∨ x = 1 ∨ x = 2 := by omega
          rcases hx3 with rfl | rfl | rfl
          · go_wp2_with (at_builtin; refine app_pcN (w0 := w5) (l := []) rfl rfl (Own.made (Nat.le_refl _)) ((Below.refl _ _).alloc (Nat.le_refl _) _) (by simp; omega) (HSL.out.alloc _) (by intro h; cases h) (by rfl) (by rfl) ?_; intro v6 w6 hown6 hb6 hg6; rw [List.nil_append] at hown6; obtain ⟨G2, cap2, rfl, hG2, hcap2, hcm2, _⟩ := hown6.row hpos; have HW6 := Lib.hid (hown6.mono hz5); have HO6 := Lib.hid (HO5.out.trans (Only.of_below hb6)); have HR6 := Lib.hid (HR5.out.below hb6); clear hown6 hb6 hg6)
            refine (pick_any (l.length : Int) _ _ _ HR6.out (by omega) (by omega)).mono ?_
            rintro e w7 ⟨y, rfl, hy, ho7, hr7⟩
            have hyl : y < l.length := by omega
            have HW7 := Lib.hid (HW6.out.only ho7 hlt)
            have HO7 := Lib.hid (HO6.out.trans ho7)
            have HR7 := Lib.hid hr7
            clear ho7 hr7
            go_wp2_with fail
            refine (pick_lit 2 (intB (-1) 5) HR7.out (by omega) rfl (by omega) (by omega) (by decide)).mono ?_
            rintro e w8 ⟨z, u, rfl, hz, hcz, hu, ho8, hr8⟩
            obtain ⟨m, rfl, hm0, hm1⟩ := intB_iff hu
            have HW8 := Lib.hid (HW7.out.only ho8 hlt)
            have HO8 := Lib.hid (HO7.out.trans ho8)
            have HR8 := Lib.hid hr8
            clear ho8 hr8 hu
            have hfz := HW8.out.free' (y * 2)
            obtain ⟨b3, o3, e3, hc0, hc1⟩ := HW8.out.sl'.getP hyl
            injection e3 with e3; injection e3 with e4 e5
            subst e4; subst e5
            simp only [Nat.zero_add] at hc0 hc1
            have HSET := Lib.hid (HW8.out.setPrint hyl m)
            have HOF := Lib.hid (HO8.out.setNew (p := ⟨G2, y * 2, none⟩) (show w.heap.size ≤ G2 by omega) (.int .i64 m))
            have HRF := Lib.hid (HR8.out.setNew (q := ⟨G2, y * 2, none⟩) (by show g < G2; omega) (.int .i64 m))
            have HSO := Lib.hid (StOk.print (n := n) (p := m) hyl hn0 HD.out)
            have hyl' : (y : Int) < (l.length : Int) := by omega
            clear hc1 hy
            generalize l[y] = q at *
            obtain ⟨q1, q2⟩ := q
            simp only at *
            go_wp2
            go_ret2
            exact ⟨_, _, root, _, rfl, HSET.out, HSO.out, HOF.out, HRF.out, by omega⟩
          · have HRW := Lib.hid (firstRow HSL.out hpos)
            have HSO := Lib.hid (StOk.twice (n := n) hpos hn0 HD.out)
            have hpos' : (0 : Int) < (l.length : Int) := by omega
            have HC := Lib.hid (show (some ⟨G, 0, none⟩ : Option Addr) = none → cap = 0 from fun h => by cases h)
            have HL := Lib.hid (show l.length ≤ 16777216 by omega)
            have HLEN := Lib.hid (show (l ++ [l[0]]).length = l.length + 1 by simp)
            have HZ := Lib.hid (show w5.heap.size < (w5.alloc madePc).heap.size by simp)
            have HZ2 := Lib.hid (show w5.heap.size < (w5.alloc (rowPc l[0])).heap.size by simp)
            have HD0 := Lib.hid (Below.refl w5.heap.size w5).drew
            generalize hy0 : l[0] = y0 at *
            clear hy0
            go_wp2_with fail
            go_region_held3 (fun w' => w'.cell? ⟨G, 0, none⟩ = some (.int .i64 y0.1) ∧ w'.cell? ⟨G, 1, none⟩ = some (.string y0.2))
              (first | assumption | exact HRW.out | exact HRW.out.below HD0.out | exact HRW.out.below HB3.out | exact HRW.out.below HB2.out | exact HRW.out.below HBR.out | exact HRW.out.below ((Below.refl _ _).alloc (Nat.le_refl _) _).drew | exact HRW.out.below (((Below.refl _ _).alloc (Nat.le_refl _) _).alloc (Nat.le_of_lt HZ.out) _).drew | exact HRW.out.below (((Below.refl _ _).alloc (Nat.le_refl _) _).alloc (Nat.le_of_lt HZ2.out) _).drew)
              ((first
                | (refine step_pq_a HSL.out HC.out HL.out rfl rfl (by rfl) (by rfl) ?_; intro v2 w2 hown2 hb2; have HW2 := Lib.hid (hown2.alloc (rowPc y0)); have HB2 := Lib.hid hb2; have HBR := Lib.hid (hb2.alloc hb2.size (rowPc y0)); have HRR := Lib.hid (RowPc.new w2 y0); clear hown2 hb2)
                | (refine step_pq_b (y := y0) HSL.out HC.out HL.out rfl rfl (by rfl) (by rfl) ?_; intro v2 w2 hown2 hb2 hr2; have HW2 := Lib.hid hown2; have HB2 := Lib.hid hb2; have HBR := HB2; have HRR := Lib.hid hr2; clear hown2 hb2 hr2)
                | (refine step_pq_c (y := y0) HSL.out HC.out HL.out rfl rfl (by rfl) (by rfl) ?_; intro v2 w2 hown2 hb2 hr2; have HW2 := Lib.hid hown2; have HB2 := Lib.hid hb2; have HBR := HB2; have HRR := Lib.hid hr2; clear hown2 hb2 hr2)
                | (refine step_pq rfl rfl HW2.out HBR.out HL.out HRR.out (by rfl) (by rfl) ?_; intro v3 w3 hown3 hb3; have HW3 := Lib.hid hown3; have HB3 := Lib.hid hb3; clear hown3 hb3)))
            all_goals
              have HWF := Lib.hid (HW3.out.mono hz5)
              have HOF := Lib.hid (HO5.out.trans (Only.of_below HB3.out))
              have HRF := Lib.hid (HR5.out.below HB3.out)
              go_wp2
              go_ret2
              exact ⟨_, _, root, _, rfl, HWF.out, HSO.out, HOF.out, HRF.out, by omega⟩
          · have hlast : l.length - 1 < l.length := by omega
            have hl2 : (0 : Int) ≤ (l.length : Int) - 1 := by omega
            have hl3 : ((l.length : Int) - 1).toNat = l.length - 1 := by omega
            have hl4 : (l.length : Int) - 1 < (l.length : Int) := by omega
            have hl5 : IntKind.i64.wrap ((l.length : Int) - 1) = (l.length : Int) - 1 := by rw [IntKind.wrap_i64]; omega
            go_wp2_with (at_builtin; go_loud (refine app_pcN (w0 := w5) (l := []) rfl rfl (Own.made (Nat.le_refl _)) ((Below.refl _ _).alloc (Nat.le_refl _) _) (by first | omega | (simp; omega)) (HSL.out.alloc _) (by intro h; cases h) (by rfl) (by rfl) ?_; intro v6 w6 hown6 hb6 hg6; rw [List.nil_append] at hown6; obtain ⟨G2, cap2, rfl, hG2, hcap2, hcm2, _⟩ := hown6.row hpos; have HW6 := Lib.hid (hown6.mono hz5); have HO6 := Lib.hid (HO5.out.trans (Only.of_below hb6)); have HR6 := Lib.hid (HR5.out.below hb6); clear hown6 hb6 hg6; have hfz := HW6.out.free' ((l.length - 1) * 2 + 1); have hcc := rowAt HW6.out.sl' hlast; have hc0 := hcc.1; have hc1 := hcc.2; clear hcc))
            have HSET := Lib.hid (HW6.out.setText hlast turnedT)
            have HOF := Lib.hid (HO6.out.setNew (p := ⟨G2, (l.length - 1) * 2 + 1, none⟩) (show w.heap.size ≤ G2 by omega) (.string turnedT))
            have HRF := Lib.hid (HR6.out.setNew (q := ⟨G2, (l.length - 1) * 2 + 1, none⟩) (by show g < G2; omega) (.string turnedT))
            have HSO := Lib.hid (StOk.text (n := n) hlast hn0 HD.out)
            go_ret2
            exact ⟨_, _, root, _, rfl, HSET.out, HSO.out, HOF.out, HRF.out, by omega⟩
end Go.Proofs.YtokelopllbaikaaGreatDoor
