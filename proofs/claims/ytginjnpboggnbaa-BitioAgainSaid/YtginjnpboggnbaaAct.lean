/- Rows of acts: memory. Conditions: none. -/
import Derived.Test.YtginjnpboggnbaaBase
namespace Go.Proofs.Ytginjnpboggnbaa
open Go.RowKit
set_option maxRecDepth 100000

/-- An act. -/
structure Ac where
  kind : Int
  n : Int
  x : Nat
  s : ByteArray
deriving Inhabited
/-- The act at i. -/
def ac (S : List Ac) (i : Nat) : Ac := S.getD i ⟨0, 0, 0, ByteArray.empty⟩
theorem ac_get {S : List Ac} {i : Nat} (h : i < S.length) : ac S i = S[i] := by
  unfold ac
  rw [List.getD_eq_getElem?_getD, List.getElem?_eq_getElem h]
  rfl
/-- The acts S lie behind a. -/
def AcRow (w : World) (a : Option Addr) (S : List Ac) : Prop :=
  S.length = 0 ∨ ∃ b off, a = some ⟨b, off, none⟩ ∧ b < w.heap.size ∧ ∀ i, i < S.length → w.cell? ⟨b, off + i * 4, none⟩ = some (.int .i64 (ac S i).kind) ∧ w.cell? ⟨b, off + i * 4 + 1, none⟩ = some (.int .i64 (ac S i).n) ∧
    w.cell? ⟨b, off + i * 4 + 2, none⟩ = some (.int .u32 ((ac S i).x : Int)) ∧ w.cell? ⟨b, off + i * 4 + 3, none⟩ = some (.string (ac S i).s)
/-- Their numbers and texts. -/
def AcOk (S : List Ac) : Prop := ∀ i, i < S.length → (ac S i).x < 4294967296 ∧ (ac S i).s.size ≤ maxLen ∧ -9223372036854775808 ≤ (ac S i).n ∧ (ac S i).n ≤ 9223372036854775807
section
variable {w w' : World} {a : Option Addr} {S : List Ac}
theorem AcRow.get (h : AcRow w a S) (i : Nat) (hi : i < S.length) : ∃ b off, a = some ⟨b, off, none⟩ ∧ b < w.heap.size ∧ w.cell? ⟨b, off + i * 4, none⟩ = some (.int .i64 (ac S i).kind) ∧ w.cell? ⟨b, off + i * 4 + 1, none⟩ = some (.int .i64 (ac S i).n) ∧
    w.cell? ⟨b, off + i * 4 + 2, none⟩ = some (.int .u32 ((ac S i).x : Int)) ∧ w.cell? ⟨b, off + i * 4 + 3, none⟩ = some (.string (ac S i).s) := by
  rcases h with h | ⟨b, off, h1, h2, h3⟩
  · omega
  · exact ⟨b, off, h1, h2, h3 i hi⟩
theorem AcRow.below {B : Nat} (h : AcRow w a S) (hb : Below B w w') (hB : w.heap.size ≤ B) : AcRow w' a S := by
  rcases h with h | ⟨b, off, h1, h2, h3⟩
  · exact .inl h
  · refine .inr ⟨b, off, h1, Nat.lt_of_lt_of_le h2 hb.size, fun i hi => ?_⟩
    obtain ⟨c0, c1, c2, c3⟩ := h3 i hi
    have e : b < B := by omega
    exact ⟨(hb.cell (p := ⟨b, off + i * 4, none⟩) e).trans c0, (hb.cell (p := ⟨b, off + i * 4 + 1, none⟩) e).trans c1, (hb.cell (p := ⟨b, off + i * 4 + 2, none⟩) e).trans c2, (hb.cell (p := ⟨b, off + i * 4 + 3, none⟩) e).trans c3⟩
end
end Go.Proofs.Ytginjnpboggnbaa
