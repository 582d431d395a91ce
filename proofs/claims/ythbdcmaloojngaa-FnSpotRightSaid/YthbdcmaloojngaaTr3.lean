/- Trees: proofs, walked. -/
import Derived.Test.YthbdcmaloojngaaTp
import Derived.Test.YthbdcmaloojngaaAp
set_option linter.unusedVariables false
namespace Go.Proofs.Ythbdcmaloojngaa
open Go.RowKit

theorem i64_xor_nat (a b : Nat) (ha : a < 9223372036854775808) (hb : b < 9223372036854775808) : bits .xor .i64 (a : Int) (b : Int) = ((a ^^^ b : Nat) : Int) := by
  show IntKind.i64.wrap ((BitVec.ofInt 64 (a : Int) ^^^ BitVec.ofInt 64 (b : Int)).toNat : Int) = _
  rw [BitVec.toNat_xor, ofInt_i64 a ha, ofInt_i64 b hb, IntKind.wrap_i64]
  have := Nat.xor_lt_two_pow (n := 63) (x := a) (y := b) (by simpa using ha) (by simpa using hb)
  omega
theorem xor1_int (N : Nat) (h : N ≤ 1000) : bits .xor .i64 (N : Int) 1 = ((N ^^^ 1 : Nat) : Int) := i64_xor_nat N 1 (by omega) (by omega)

/-- One level of a tree on the way of a proof: what was written so far, what is to come. -/
def ProofAt (l : List Int) (n : Nat) (acc m : List Int) (N : Nat) : Prop := ∃ f, m.length ≤ 2 ^ f ∧ proofF 5 l n = acc ++ proofF f m N
theorem ProofAt.start {l : List Int} {n : Nat} (h : l.length ≤ 16) : ProofAt l n [] l n := ⟨5, by omega, rfl⟩
theorem ProofAt.len {l : List Int} {n : Nat} {acc m : List Int} {N : Nat} (h : ProofAt l n acc m N) : acc.length ≤ 5 := by
  obtain ⟨f, _, e⟩ := h
  have := proofF_len 5 l n
  rw [e, List.length_append] at this; omega
theorem ProofAt.step {l : List Int} {n : Nat} {acc m : List Int} {N : Nat} (h : ProofAt l n acc m N) (h1 : 1 < m.length) (x : Int) (hx : x = if N ^^^ 1 < m.length then m.getD (N ^^^ 1) 0 else -1) : ProofAt l n (acc ++ [x]) (lvlUp m) (N / 2) := by
  obtain ⟨f, hf, e⟩ := h
  cases f with
  | zero => simp at hf; omega
  | succ f =>
    refine ⟨f, ?_, ?_⟩
    · rw [lvlUp_len]; simp only [Nat.pow_succ] at hf; omega
    · rw [e, proofF_step h1, ← hx]; simp
theorem ProofAt.done {l : List Int} {n : Nat} {acc m : List Int} {N : Nat} (h : ProofAt l n acc m N) (h1 : m.length = 1) : proofF 5 l n = acc := by
  obtain ⟨f, hf, e⟩ := h
  rw [e, proofF_done h1, List.append_nil]
theorem getD_of_lt {m : List Int} {k : Nat} (h : k < m.length) : m.getD k 0 = m[k] := by rw [List.getD_eq_getElem?_getD, List.getElem?_eq_getElem h]; rfl
/-- A level that is read: no part of what is written. -/
def LvlIn (w0 wr : World) (v : Value) (m : List Int) (A : Option Addr) : Prop := Sl wr encI 1 A m ∧ Apart A v

set_option maxHeartbeats 4000000 in
set_option maxRecDepth 100000 in
theorem iTreeProof_any (A : Option Addr) (c : Nat) (l : List Int) (n : Int) (w : World) (hs : Sl w encI 1 A l) (hl : l.length ≤ 16777216) :
    Calls Try.prog 38 #[.slice A l.length c, .int .i64 n] w (OwnRes 3 1 encI (treeProof l n) w) := by
  have HS := Lib.hid hs
  clear hs
  by_cases hok : leavesV l = true ∧ 0 ≤ n ∧ n < l.length
  · obtain ⟨hv, h0, h1⟩ := hok
    rw [treeProof_ok hv h0 h1]
    obtain ⟨N0, rfl⟩ := Int.eq_ofNat_of_zero_le h0
    rw [Int.toNat_natCast]
    obtain ⟨h2, h3, _⟩ := leavesV_iff.1 hv
    have hd1 : decide (l.length ≤ N0) = false := decide_eq_false (by omega)
    have hd2 : decide ((N0 : Int) < 0) = false := decide_eq_false (by omega)
    go_enter Try.func38, Try.ntmps38
    go_wp2_with (go_at_call 37; refine (ileavesValid_any _ _ _ _ HS.out hl).mono ?_; rintro e w' ⟨rfl, rfl⟩)
    go_loopw [1, 5, 6] (fun n v lev wr => ∃ (N : Nat) (acc m : List Int) (A1 : Option Addr) (c1 : Nat), n = .int .i64 (N : Int) ∧ lev = .slice A1 m.length c1 ∧ N < m.length ∧ m.length ≤ 16 ∧ Hid (ProofAt l N0 acc m N) ∧ LvlIn w wr v m A1 ∧ Own wr w.heap.size 3 1 encI v acc ∧ Below w.heap.size w wr) (fun _ _ lev _ => lenOf lev)
    case atStart => exact ⟨N0, [], l, A, c, rfl, rfl, by omega, h3, ProofAt.start h3, ⟨HS.out, Apart.nil _⟩, Own.nil, Below.refl _ _⟩
    case round =>
      obtain ⟨N, acc, m, A1, c1, rfl, rfl, hN, hm, hp, hlv, hown, hb⟩ := hrel
      have HL := Lib.hid hlv
      have hal := hp.out.len
      have HW := Lib.hid hown
      clear hlv hown
      by_cases hlt : 1 < m.length
      · have hx := xor1_int N (by omega)
        have hst := fun x => hp.out.step hlt x
        generalize hX : N ^^^ 1 = X at *
        have HX := Lib.hid hX
        have HST := Lib.hid hst
        have hlu := lvlUp_len m
        have HLU := Lib.hid hlu
        clear hX hst hlu hp
        have hb' := hb
        have HBB := Lib.hid hb
        by_cases hXm : X < m.length
        · obtain ⟨b, o, rfl, hc⟩ := HL.out.1.getI hXm
          have hXX := getD_of_lt hXm
          have HXX := Lib.hid hXX
          clear hXX
          go_wp2_with (first
            | (at_builtin; refine app_int2 rfl rfl (by rfl) (by rfl) HW.out hb' (by omega) ?_; intro v1 w2 hown2 hb2 hg2; have HG2 := Lib.hid hg2; have HW2 := Lib.hid hown2; have HB2 := Lib.hid hb2; clear hg2 hown2 hb2)
            | (go_at_call 56; refine (i_levelAbove_any _ _ _ _ (HL.out.1.grew HG2.out HL.out.2) (by omega)).mono ?_; rintro e w3 ⟨v3, rfl, hown3, hb3⟩; have HW3 := Lib.hid hown3; have HB3 := Lib.hid hb3; clear hown3 hb3))
          obtain ⟨A3, c3, hv3, _, hs3, hblk⟩ := HW3.out.sl
          subst hv3
          go_wp2
          go_roundw
          case rel =>
            refine ⟨N / 2, _, lvlUp m, A3, c3, by go_num, rfl, by rw [HLU.out]; omega, by rw [HLU.out]; omega, HST.out _ (by rw [if_pos hXm]; exact HXX.out.symm), ⟨hs3, ?_⟩, HW2.out.below HB3.out, Below_then HB2.out HB3.out (Nat.le_refl _)⟩
            refine Apart.of_ge (B := w2.heap.size) (fun b o e => ?_) (fun g hg => (HW2.out.blk g hg).2)
            rcases hblk with ⟨_, hn⟩ | ⟨g, hg, hge, _⟩
            · rw [hn] at e; cases e
            · rw [hg] at e; injection e with e; injection e with e1 _; omega
          case measure => simp [lenOf, HLU.out]; omega
        · go_wp2_with (first
            | (at_builtin; refine app_int2 rfl rfl (by rfl) (by rfl) HW.out hb' (by omega) ?_; intro v1 w2 hown2 hb2 hg2; have HG2 := Lib.hid hg2; have HW2 := Lib.hid hown2; have HB2 := Lib.hid hb2; clear hg2 hown2 hb2)
            | (go_at_call 56; refine (i_levelAbove_any _ _ _ _ (HL.out.1.grew HG2.out HL.out.2) (by omega)).mono ?_; rintro e w3 ⟨v3, rfl, hown3, hb3⟩; have HW3 := Lib.hid hown3; have HB3 := Lib.hid hb3; clear hown3 hb3))
          obtain ⟨A3, c3, hv3, _, hs3, hblk⟩ := HW3.out.sl
          subst hv3
          go_wp2
          go_roundw
          case rel =>
            refine ⟨N / 2, _, lvlUp m, A3, c3, by go_num, rfl, by rw [HLU.out]; omega, by rw [HLU.out]; omega, HST.out _ (by rw [if_neg hXm]), ⟨hs3, ?_⟩, HW2.out.below HB3.out, Below_then HB2.out HB3.out (Nat.le_refl _)⟩
            refine Apart.of_ge (B := w2.heap.size) (fun b o e => ?_) (fun g hg => (HW2.out.blk g hg).2)
            rcases hblk with ⟨_, hn⟩ | ⟨g, hg, hge, _⟩
            · rw [hn] at e; cases e
            · rw [hg] at e; injection e with e; injection e with e1 _; omega
          case measure => simp [lenOf, HLU.out]; omega
      · have hm1 : m.length = 1 := by omega
        have HM1 := Lib.hid hm1
        clear hm1
        go_wp2
        go_ret
        refine ⟨_, rfl, ?_, hb⟩
        rw [hp.out.done HM1.out]; exact HW.out
  · have hbad : leavesV l = false ∨ n < 0 ∨ (l.length : Int) ≤ n := by
      cases hv : leavesV l
      · exact .inl rfl
      · right; by_cases h0 : n < 0
        · exact .inl h0
        · right; by_cases h1 : (l.length : Int) ≤ n
          · exact h1
          · exact absurd ⟨hv, by omega, by omega⟩ hok
    rw [treeProof_bad hbad]
    clear hok
    cases hv : leavesV l
    · clear hbad
      go_enter Try.func38, Try.ntmps38
      go_wp2_with (go_at_call 37; refine (ileavesValid_any _ _ _ _ HS.out hl).mono ?_; rintro e w' ⟨rfl, rfl⟩)
      go_ret
      exact ⟨_, rfl, Own.nil, Below.refl _ _⟩
    · have hbad2 : n < 0 ∨ (l.length : Int) ≤ n := by rcases hbad with h | h | h; · rw [hv] at h; cases h
                                                      · exact .inl h
                                                      · exact .inr h
      clear hbad
      by_cases h0 : n < 0
      · clear hbad2
        go_enter Try.func38, Try.ntmps38
        go_wp2_with (go_at_call 37; refine (ileavesValid_any _ _ _ _ HS.out hl).mono ?_; rintro e w' ⟨rfl, rfl⟩)
        go_ret
        exact ⟨_, rfl, Own.nil, Below.refl _ _⟩
      · have h1 : (l.length : Int) ≤ n := by omega
        clear hbad2
        go_enter Try.func38, Try.ntmps38
        go_wp2_with (go_at_call 37; refine (ileavesValid_any _ _ _ _ HS.out hl).mono ?_; rintro e w' ⟨rfl, rfl⟩)
        go_ret
        exact ⟨_, rfl, Own.nil, Below.refl _ _⟩
set_option maxHeartbeats 4000000 in
set_option maxRecDepth 100000 in
theorem sTreeProof_any (A : Option Addr) (c : Nat) (l : List Int) (n : Int) (w : World) (hs : Sl w encI 1 A l) (hl : l.length ≤ 16777216) :
    Calls Try.prog 52 #[.slice A l.length c, .int .i64 n] w (OwnRes 3 1 encI (treeProof l n) w) := by
  have HS := Lib.hid hs
  clear hs
  cases hv : leavesV l
  · rw [treeProof_bad (.inl hv)]
    go_enter Try.func52, Try.ntmps52
    go_wp2_with (go_at_call 58; refine (sl5Valid_any _ _ _ _ (HS.out.alloc _) hl).mono ?_; rintro e w' ⟨rfl, rfl⟩)
    go_ret
    exact ⟨_, rfl, Own.made (Nat.le_refl _), (Below.refl _ _).alloc (Nat.le_refl _) _⟩
  · cases hi : inI n 0 ((l.length : Int) - 1)
    · have hb : n < 0 ∨ (l.length : Int) ≤ n := by simp [inI] at hi; omega
      rw [treeProof_bad (.inr hb)]
      clear hb
      go_enter Try.func52, Try.ntmps52
      go_wp2_with (first | (go_at_call 58; refine (sl5Valid_any _ _ _ _ (HS.out.alloc _) hl).mono ?_; rintro e w' ⟨rfl, rfl⟩) | (go_at_call 51; refine (sl1In_any _ _ _ _).mono ?_; rintro e w' ⟨rfl, rfl⟩))
      go_ret
      exact ⟨_, rfl, Own.made (Nat.le_refl _), (Below.refl _ _).alloc (Nat.le_refl _) _⟩
    · have hi2 : 0 ≤ n ∧ n ≤ (l.length : Int) - 1 := by simpa [inI] using hi
      obtain ⟨h0, h1⟩ := hi2
      rw [treeProof_ok hv h0 (by omega)]
      obtain ⟨N0, rfl⟩ := Int.eq_ofNat_of_zero_le h0
      rw [Int.toNat_natCast]
      obtain ⟨h2, h3, _⟩ := leavesV_iff.1 hv
      have hlt0 := fun (h : 0 < l.length) => HS.out.lt (fun _ => rfl) (by omega) h
      have HLT := Lib.hid hlt0
      clear hlt0
      have hd1 : decide (l.length ≤ N0) = false := decide_eq_false (by omega)
      have hd2 : decide ((N0 : Int) < 0) = false := decide_eq_false (by omega)
      go_enter Try.func52, Try.ntmps52
      go_wp2_with (first | (go_at_call 58; refine (sl5Valid_any _ _ _ _ (HS.out.alloc _) hl).mono ?_; rintro e w' ⟨rfl, rfl⟩) | (go_at_call 51; refine (sl1In_any _ _ _ _).mono ?_; rintro e w' ⟨rfl, rfl⟩))
      clear hi
      go_loopw [1, 5, 0] (fun n v lev wr => ∃ (N : Nat) (acc m : List Int) (A1 : Option Addr) (c1 : Nat), n = .int .i64 (N : Int) ∧ lev = .slice A1 m.length c1 ∧ N < m.length ∧ m.length ≤ 16 ∧ Hid (ProofAt l N0 acc m N) ∧ LvlIn w wr v m A1 ∧ Own wr w.heap.size 3 1 encI v acc ∧ Below w.heap.size w wr) (fun _ _ lev _ => lenOf lev)
      case atStart => exact ⟨N0, [], l, A, c, rfl, rfl, by omega, h3, ProofAt.start h3, ⟨HS.out.alloc _, Apart.of_lt (B := w.heap.size) (HLT.out (by omega)) (fun g hg => ((Own.made (enc := encI) (size := 1) (E := 3) (Nat.le_refl w.heap.size)).blk g hg).1)⟩, Own.made (Nat.le_refl _), (Below.refl _ _).alloc (Nat.le_refl _) _⟩
      case round =>
        obtain ⟨N, acc, m, A1, c1, rfl, rfl, hN, hm, hp, hlv, hown, hb⟩ := hrel
        have HL := Lib.hid hlv
        have hal := hp.out.len
        have HW := Lib.hid hown
        clear hlv hown
        by_cases hlt : 1 < m.length
        · have hx : (N : Int) + 1 - (N : Int) % 2 * 2 = ((N ^^^ 1 : Nat) : Int) := by rw [xor1]; omega
          have hst := fun x => hp.out.step hlt x
          generalize hX : N ^^^ 1 = X at *
          have HX := Lib.hid hX
          have HST := Lib.hid hst
          have hlu := lvlUp_len m
          have HLU := Lib.hid hlu
          clear hX hst hlu hp
          have hb' := hb
          have HBB := Lib.hid hb
          by_cases hXm : X < m.length
          · obtain ⟨b, o, rfl, hc⟩ := HL.out.1.getI hXm
            have hXX := getD_of_lt hXm
            have HXX := Lib.hid hXX
            clear hXX
            go_wp2_with (first
              | (at_builtin; refine app_int2 rfl rfl (by rfl) (by rfl) HW.out hb' (by omega) ?_; intro v1 w2 hown2 hb2 hg2; have HG2 := Lib.hid hg2; have HW2 := Lib.hid hown2; have HB2 := Lib.hid hb2; clear hg2 hown2 hb2)
              | (go_at_call 59; refine (s_l5Up_any _ _ _ _ (HL.out.1.grew HG2.out HL.out.2) (by omega)).mono ?_; rintro e w3 ⟨v3, rfl, hown3, hb3⟩; have HW3 := Lib.hid hown3; have HB3 := Lib.hid hb3; clear hown3 hb3))
            obtain ⟨A3, c3, hv3, _, hs3, hblk⟩ := HW3.out.sl
            subst hv3
            go_wp2
            go_roundw
            case rel =>
              refine ⟨N / 2, _, lvlUp m, A3, c3, by go_num, rfl, by rw [HLU.out]; omega, by rw [HLU.out]; omega, HST.out _ (by rw [if_pos hXm]; exact HXX.out.symm), ⟨hs3, ?_⟩, HW2.out.below HB3.out, Below_then HB2.out HB3.out (Nat.le_refl _)⟩
              refine Apart.of_ge (B := w2.heap.size) (fun b o e => ?_) (fun g hg => (HW2.out.blk g hg).2)
              rcases hblk with ⟨_, hn⟩ | ⟨g, hg, hge, _⟩
              · rw [hn] at e; cases e
              · rw [hg] at e; injection e with e; injection e with e1 _; omega
            case measure => simp [lenOf, HLU.out]; omega
          · go_wp2_with (first
              | (at_builtin; refine app_int2 rfl rfl (by rfl) (by rfl) HW.out hb' (by omega) ?_; intro v1 w2 hown2 hb2 hg2; have HG2 := Lib.hid hg2; have HW2 := Lib.hid hown2; have HB2 := Lib.hid hb2; clear hg2 hown2 hb2)
              | (go_at_call 59; refine (s_l5Up_any _ _ _ _ (HL.out.1.grew HG2.out HL.out.2) (by omega)).mono ?_; rintro e w3 ⟨v3, rfl, hown3, hb3⟩; have HW3 := Lib.hid hown3; have HB3 := Lib.hid hb3; clear hown3 hb3))
            obtain ⟨A3, c3, hv3, _, hs3, hblk⟩ := HW3.out.sl
            subst hv3
            go_wp2
            go_roundw
            case rel =>
              refine ⟨N / 2, _, lvlUp m, A3, c3, by go_num, rfl, by rw [HLU.out]; omega, by rw [HLU.out]; omega, HST.out _ (by rw [if_neg hXm]), ⟨hs3, ?_⟩, HW2.out.below HB3.out, Below_then HB2.out HB3.out (Nat.le_refl _)⟩
              refine Apart.of_ge (B := w2.heap.size) (fun b o e => ?_) (fun g hg => (HW2.out.blk g hg).2)
              rcases hblk with ⟨_, hn⟩ | ⟨g, hg, hge, _⟩
              · rw [hn] at e; cases e
              · rw [hg] at e; injection e with e; injection e with e1 _; omega
            case measure => simp [lenOf, HLU.out]; omega
        · have hm1 : m.length = 1 := by omega
          have HM1 := Lib.hid hm1
          clear hm1
          go_wp2
          go_ret
          refine ⟨_, rfl, ?_, hb⟩
          rw [hp.out.done HM1.out]; exact HW.out
end Go.Proofs.Ythbdcmaloojngaa
