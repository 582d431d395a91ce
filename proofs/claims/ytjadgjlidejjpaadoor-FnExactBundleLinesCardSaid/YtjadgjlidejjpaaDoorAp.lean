/- 'append' of one element onto a row of the call's own, telling besides what became of all other rows. -/
import Derived.Test.YtjadgjlidejjpaaDoorFi2
set_option linter.unusedVariables false
namespace Go.Proofs.YtjadgjlidejjpaaDoor
open Go.RowKit

/-- w' is w but for new blocks and for the row that v owns. -/
def Grew (v : Value) (w w' : World) : Prop := w.grownBy w' v.ownBlock
/-- No slice at A lies in v's own block. -/
def Apart (A : Option Addr) (v : Value) : Prop := ∀ b o, A = some ⟨b, o, none⟩ → v.ownBlock ≠ some b
theorem Apart.nil (A : Option Addr) : Apart A (.slice none 0 0) := fun b o _ h => by simp [Value.ownBlock] at h
theorem Sl.grew {α : Type} {enc : α → List Value} {w w' : World} {size : Nat} {A : Option Addr} {l : List α} {v : Value} (h : Sl w enc size A l) (hg : Grew v w w') (ha : Apart A v) : Sl w' enc size A l := by
  intro hn
  obtain ⟨b, o, e, hc⟩ := h hn
  refine ⟨b, o, e, fun j u hu => ?_⟩
  have hcc := hc j u hu
  have hlt := World.block_lt_of_cell? w _ hcc
  rw [World.cell?_of_block (w := w) (hg.block b hlt (fun e2 => ha b o e (by rw [e2])))]; exact hcc
theorem Own.blk {α : Type} {enc : α → List Value} {w : World} {base size : Nat} {E : TypeId} {v : Value} {l : List α} (h : Own w base E size enc v l) : ∀ g, v.ownBlock = some g → base ≤ g ∧ g < w.heap.size := fun g hg => World.ownsRow.lt h g hg
/-- What is read lies below the base of what is owned: apart. -/
theorem Apart.of_lt {A : Option Addr} {v : Value} {B : Nat} (hA : ∀ b o, A = some ⟨b, o, none⟩ → b < B) (hv : ∀ g, v.ownBlock = some g → B ≤ g) : Apart A v := fun b o e h => by
  have h1 := hA b o e; have h2 := hv b h; exact absurd h1 (by omega)
theorem Apart.of_ge {A : Option Addr} {v : Value} {B : Nat} (hA : ∀ b o, A = some ⟨b, o, none⟩ → B ≤ b) (hv : ∀ g, v.ownBlock = some g → g < B) : Apart A v := fun b o e h => by
  have := hA b o e; have := hv b h; omega
theorem Sl.lt {α : Type} {enc : α → List Value} {w : World} {size : Nat} {A : Option Addr} {l : List α} (h : Sl w enc size A l) (he : ∀ x, (enc x).length = size) (hs : 0 < size) (hl : 0 < l.length) : ∀ b o, A = some ⟨b, o, none⟩ → b < w.heap.size := by
  intro b o e
  obtain ⟨b', o', e', hc⟩ := h hl
  have hpos : 0 < (flat enc l).length := by rw [flat_length he l]; exact Nat.mul_pos hl hs
  have h0 := hc 0 _ (List.getElem?_eq_getElem hpos)
  have hlt : b' < w.heap.size := World.block_lt_of_cell? w _ h0
  rw [e] at e'; injection e' with e'; injection e' with e1 _
  omega

theorem wpList_app2 {P : Program} {α : Type} {enc : α → List Value} {ops : Array Oper} {rest : List Oper} {o : Oper} {a : Act} {Q : Exit → Act → World → Prop} {w0 wr : World} {B base size bytes : Nat} {t E : TypeId} {i : TypeInfo} {z : Value} {v : Value} {l : List α}
    (ht : P.underlying t = some (.slice E)) (hi : P.info? E = some i) (hz : i.zero = some z) (hsize : i.size = size) (hby : i.bytes = bytes) (hzs : z.cells.size = size) (hsz : 0 < size) (hb200 : bytes ≤ 256)
    (hgd : o.guard = none) (s x : Operand) (ho : o.op = .call { callee := .builtin .append, args := #[s, x], argTypes := #[t, t] })
    (hs : a.eval s = v) (hx : a.eval x = .slice (some ⟨wr.heap.size, 0, none⟩) 1 1)
    (hown : Own wr base E size enc v l) (hb : Below B w0 wr) (hB : B ≤ base) (hbase : base ≤ wr.heap.size) (hn : l.length ≤ 16777216) (y : α) (cells : Array Value) (hcl : cells = (enc y).toArray) (hce : (enc y).length = size) (h1 : ∀ u ∈ enc y, u.oneCell' = true)
    (h : ∀ v' w', Own w' base E size enc v' (l ++ [y]) → Below B w0 w' → Grew v wr w' → wpList P ops Q rest (a.put o.dst v') w') : wpList P ops Q (o :: rest) a (wr.alloc (.cells cells E)) := by
  subst hcl
  refine wpList_append_own _ hgd s x t ho base E i z size bytes ht hi hz hsize hby hzs hsz v l.length (flat enc l) hs (World.ownsRow.alloc hown _) ⟨wr.heap.size, 0, none⟩ 1 1 (enc y) hx (by rw [hce, Nat.one_mul]) ?_ h1 ?_ ?_ ?_ ?_
  · intro j u hu
    have hadd : (⟨wr.heap.size, 0, none⟩ : Addr).add j = ⟨wr.heap.size, j, none⟩ := by unfold Addr.add; split <;> simp_all
    rw [hadd, cell_of_row _ _ j _ E (0, 0) (heap_alloc_new wr _)]
    simpa using hu
  · unfold maxLen; omega
  · have := Nat.mul_le_mul_left (l.length + 1) hb200; omega
  · simp; omega
  · intro v' w' hown' hg _
    refine h v' w' ?_ ((hb.alloc (Nat.le_trans hB hbase) _).grown hg (by simp; omega) (fun k hk => ?_)) ?_
    · show w'.ownsRow base E size v' (l ++ [y]).length (flat enc (l ++ [y]))
      rw [flat_snoc, List.length_append]; exact hown'
    · exact Nat.le_trans hB (World.ownsRow.lt hown k hk).1
    · exact ⟨hg.os, hg.tape, hg.output, Nat.le_trans (by simp) hg.size, fun k hk hne => (hg.block k (by simp; omega) hne).trans (Below.heap_alloc wr _ k hk)⟩
section
variable {ops : Array Oper} {rest : List Oper} {o : Oper} {a : Act} {Q : Exit → Act → World → Prop} {w0 wr : World} {v : Value}
end
end Go.Proofs.YtjadgjlidejjpaaDoor
