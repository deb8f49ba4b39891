/- Texts joined: Base BitP Turn Sink SinkT Source SourceA Source2 TreeP IRow CodesP Codes CodesW TreeM Plant SrcK Next4 Rdr Tok Size NewW Zeros Concat Mul1 Repeat Fixed OwnI. Conditions: each theorem says its own. -/
import Derived.WalkKit
import Derived.WalkSpells
import Derived.WalkLawsBesides
import Derived.Lib.Hide
import Derived.Deep.AppendLies
import Derived.Deep.DeepMust
import Derived.Deep.QuietTactic
import Derived.BigQuiet
import Derived.Laws.CopyOwn
import Derived.Maps.AppendAt
import Derived.Laws.AppendOwnNone
import Derived.Deep.Cut
import Derived.Deep.RegionHeld3
import Derived.Lib.AppendZeros
import Derived.Deep.RegionLaw
import Derived.Test.YtjnglahjngiofaaRows
namespace Go.Proofs.Ytjnglahjngiofaa
open Go.RowKit

/-- Block g is just the cells cs of type t, none frozen. -/
def Blk (w : World) (g : Nat) (t : TypeId) (cs : Array Value) : Prop := w.heap[g]? = some (.cells cs t (0, 0))

section
variable {w w' : World} {g : Nat} {t : TypeId} {cs : Array Value}
theorem Blk.lt (h : Blk w g t cs) : g < w.heap.size := by
  rcases Nat.lt_or_ge g w.heap.size with hlt | hge
  · exact hlt
  · unfold Blk at h; rw [Array.getElem?_eq_none hge] at h; cases h
theorem Blk.cell (h : Blk w g t cs) (i : Nat) : w.cell? ⟨g, i, none⟩ = cs[i]? := cell_of_row w g i cs t (0, 0) h
theorem Blk.frozen (h : Blk w g t cs) (i : Nat) : w.frozen? ⟨g, i, none⟩ = false := by
  unfold Blk at h
  simp [World.frozen?, h]
theorem Blk.new (w : World) (t : TypeId) (cs : Array Value) : Blk (w.alloc (.cells cs t)) w.heap.size t cs := heap_alloc_new w _
theorem Blk.drew (h : Blk w g t cs) : Blk w.drew g t cs := h
theorem Blk.drewN (h : Blk w g t cs) (n : Nat) : Blk (w.drewN n) g t cs := h
theorem Blk.alloc (h : Blk w g t cs) (o : Obj) : Blk (w.alloc o) g t cs := (Below.heap_alloc w o g h.lt).trans h
theorem Blk.set_ (h : Blk w g t cs) (i : Nat) (u : Value) : Blk (w.setCell ⟨g, i, none⟩ u) g t (cs.setIfInBounds i u) := by
  unfold Blk at h ⊢
  simp [World.setCell, Array.getElem?_modify, h]
theorem Blk.far (h : Blk w g t cs) {p : Addr} (hp : g ≠ p.block) (u : Value) : Blk (w.setCell p u) g t cs := (Below.heap_setCell w p u g hp).trans h
theorem Blk.below {B : Nat} (h : Blk w g t cs) (hb : Below B w w') (hg : g < B) : Blk w' g t cs := (hb.block g hg).trans h
theorem Blk.grown {row : Option Nat} (h : Blk w g t cs) (hb : w.grownBy w' row) (hg : some g ≠ row) : Blk w' g t cs := (hb.block g h.lt hg).trans h
end

/-- n cells, by their place. -/
def fcells (n : Nat) (f : Nat → Value) : Array Value := ((List.range n).map f).toArray
theorem fcells_size (n : Nat) (f : Nat → Value) : (fcells n f).size = n := by simp [fcells]
theorem fcells_at (n : Nat) (f : Nat → Value) (j : Nat) (hj : j < n) : (fcells n f)[j]? = some (f j) := by simp [fcells, hj]
theorem fcells_out (n : Nat) (f : Nat → Value) (j : Nat) (hj : ¬ j < n) : (fcells n f)[j]? = none := by simp [fcells, hj]
theorem fcells_congr (n : Nat) (f g : Nat → Value) (h : ∀ i, i < n → f i = g i) : fcells n f = fcells n g := by
  apply Array.ext_getElem?
  intro i
  by_cases hi : i < n
  · rw [fcells_at n _ i hi, fcells_at n _ i hi, h i hi]
  · rw [fcells_out n _ i hi, fcells_out n _ i hi]
theorem fcells_set (n : Nat) (f : Nat → Value) (j : Nat) (v : Value) : (fcells n f).setIfInBounds j v = fcells n (fun i => if i = j then v else f i) := by
  apply Array.ext_getElem?
  intro i
  rw [Array.getElem?_setIfInBounds]
  by_cases hi : i < n
  · rw [fcells_at n _ i hi, fcells_at n _ i hi]
    by_cases e : j = i
    · subst e; simp [fcells_size, hi]
    · have e' : ¬ i = j := fun h => e h.symm
      simp [e, e']
  · rw [fcells_out n _ i hi, fcells_out n _ i hi]
    by_cases e : j = i
    · subst e; simp [fcells_size, hi]
    · simp [e]
theorem fcells_made (n : Nat) (z : Value) : madeCells #[z] n = fcells n fun _ => z := by
  apply Array.toList_inj.1
  rw [toList_madeCells_one]
  simp only [fcells]
  rw [List.map_const', List.length_range]

theorem info_u8 : (Try.prog.info? 5).map (fun i => (i.zero, i.size, i.bytes)) = some (some (.int .u8 0), 1, 1) := by kernel_rfl

/-- The cells of bytes. -/
def bcells (l : List UInt8) : List Value := l.map fun c => .int .u8 (c.toNat : Int)

theorem bcells_append (l m : List UInt8) : bcells (l ++ m) = bcells l ++ bcells m := by simp [bcells]

/-- The slice value v owns the bytes l, in blocks from base on. -/
def OwnB (w : World) (base : Nat) (v : Value) (l : List UInt8) : Prop := w.ownsRow base 5 1 v l.length (bcells l)

theorem OwnB.nil (w : World) (base : Nat) : OwnB w base (.slice none 0 0) [] := World.ownsRow_nil _ _ _ _
theorem OwnB.drew {w : World} {base : Nat} {v : Value} {l : List UInt8} (h : OwnB w base v l) : OwnB w.drew base v l := h

theorem ret_int {k : IntKind} {a b : Int} (h : a = b) : Ending.returned (.int k a) = .returned (.int k b) := by rw [h]
theorem ret_str {a b : List UInt8} (h : a = b) : Ending.returned (.string ⟨a.toArray⟩) = .returned (.string ⟨b.toArray⟩) := by rw [h]

theorem toList_front (s : ByteArray) (k : Nat) : (s.extract 0 k).toList = s.data.toList.take k := by
  rw [ByteArray.toList_eq]
  simp

theorem below_drew {B : Nat} {w w' : World} (h : Below w.drew.heap.size w.drew w') (hB : B ≤ w.heap.size) : Below B w w' :=
  ((Below.refl B w).drew).trans (Below.mono h hB)

theorem below_drewN {B : Nat} {a w : World} (h : Below B a w) (n : Nat) : Below B a (w.drewN n) := ⟨h.os, h.tape, h.output, h.size, h.block⟩

theorem bthen {w w1 w2 : World} (h : Below w.heap.size w w1) (k : Below w1.heap.size w1 w2) : Below w.heap.size w w2 := h.trans (k.mono h.size)

theorem ofNat_byte (u : Int) (h0 : 0 ≤ u) (h1 : u < 256) : ((UInt8.ofNat u.toNat).toNat : Int) = u := by
  simp [UInt8.toNat_ofNat']
  omega

/-- make([]T, n), T of one cell. -/
theorem run_make_f {t e : TypeId} (ht : Try.prog.underlying t = some (.slice e)) {z : Value} {bytes : Nat} (hI : (Try.prog.info? e).map (fun i => (i.zero, i.size, i.bytes)) = some (some z, 1, bytes)) (hz : z.cells = #[z]) (n : Nat) (I : Int) (hn : I = (n : Int)) (hb : bytes * n ≤ 281474976710656) (hm : n ≤ 9223372036854775807) (w : World) :
    (Instr.makeSlice t (.int .i64 I) (.int .i64 I)).run Try.prog w = .ok (.slice (some ⟨w.heap.size, 0, none⟩) n n) (w.alloc (.cells (fcells n fun _ => z) e)) := by
  subst hn
  obtain ⟨i0, hi, hz0, hz1, hz2⟩ := info_parts hI
  have hbi : (i0.bytes : Int) * (n : Int) ≤ 281474976710656 := by
    have h : ((i0.bytes * n : Nat) : Int) ≤ 281474976710656 := by rw [hz2]; omega
    rwa [Int.natCast_mul] at h
  have hr := run_make (P := Try.prog) w t e i0 z ht hi hz0 .i64 .i64 n n (by omega) (by omega) hbi (by omega)
  simp only [Int.toNat_natCast] at hr
  rw [hz1, hz, Nat.mul_one, fcells_made] at hr
  exact hr

theorem grownBy_trans {w w1 w2 : World} {row : Option Nat} (h4 : w.grownBy w1 row) (h3 : w1.grownBy w2 row) : w.grownBy w2 row :=
  ⟨h3.os.trans h4.os, h3.tape.trans h4.tape, h3.output.trans h4.output, Nat.le_trans h4.size h3.size,
    fun k hk hne => (h3.block k (Nat.lt_of_lt_of_le hk h4.size) hne).trans (h4.block k hk hne)⟩

/-- append(out, x, ..): k elements, of whatever type, that were just laid, behind those that the call itself has put together; as an operation. -/
theorem wp_append_lit_at {o : Oper} {a : Act} {K : Act → World → Prop} {Q : Exit → Act → World → Prop} (w : World) (s x : Operand) {t e : TypeId}
    (ho : o.op = .call { callee := .builtin .append, args := #[s, x], argTypes := #[t, t] })
    (ht : Try.prog.underlying t = some (.slice e)) {z : Value} {size bytes : Nat} (hI : (Try.prog.info? e).map (fun i => (i.zero, i.size, i.bytes)) = some (some z, size, bytes)) (hzs : z.cells.size = size) (hsz : 0 < size)
    (base : Nat) (v : Value) (n : Nat) (xs us : List Value) (k : Nat) (hown : w.ownsRow base e size v n xs) (hus : us.length = k * size) (h1 : ∀ u ∈ us, u.oneCell' = true) (hs : a.eval s = v)
    {sz : Nat} (hx : a.eval x = .slice (some ⟨sz, 0, none⟩) k k) (hsize : sz = w.heap.size) (hm : n + k ≤ maxLen) (hl : (n + k) * bytes ≤ 140737488355328) (hbase : base ≤ w.heap.size)
    {w1 : World} (hw1 : w1 = w.alloc (.cells us.toArray e))
    (h : ∀ v' w', w'.ownsRow base e size v' (n + k) (xs ++ us) → w.grownBy w' v.ownBlock → (∀ g, g < w.heap.size → v.ownBlock ≠ some g → v'.ownBlock ≠ some g) → K (a.put o.dst v') w') :
    o.wp Try.prog a w1 K Q := by
  subst hsize
  subst hw1
  obtain ⟨i0, hi, hz0, hz1, hz2⟩ := info_parts hI
  obtain ⟨v', w', hrun, h2, h3, _, h5⟩ := run_append_own_at (P := Try.prog) (w.alloc (.cells us.toArray e)) base t o.type e i0 z size bytes ht hi hz0 hz1 hz2 hzs hsz v n xs
    (World.ownsRow.alloc hown _) ⟨w.heap.size, 0, none⟩ k k us hus (by
      intro j y hj
      have e1 : (⟨w.heap.size, 0, none⟩ : Addr).add j = ⟨w.heap.size, j, none⟩ := by unfold Addr.add; split <;> simp_all
      rw [e1, cell_of_row _ w.heap.size j us.toArray e (0, 0) (heap_alloc_new w _)]
      simpa using hj) h1 hm hl (by simp; omega)
  have hk := h v' w' h2 (grownBy_trans (World.grownBy_alloc w (.cells us.toArray e) v.ownBlock) h3) (by
    intro g hg hne
    rcases h5 with h5 | h5
    · rw [h5]; exact hne
    · rw [h5, World.size_alloc]
      intro he
      simp only [Option.some.injEq] at he
      omega)
  unfold Oper.wp execOp
  simp only [ho, resolve, invoke, builtin, Sem.run_bind, Sem.run_pure, Result.andThen_ok, List.map_toArray, List.map_cons, List.map_nil, hs, hx, hrun]
  exact hk

/-- append(out, x, ..): k elements, of whatever type, that were just laid, behind those that the call itself has put together; as an operation. -/
theorem wp_append_lit {o : Oper} {a : Act} {K : Act → World → Prop} {Q : Exit → Act → World → Prop} (w : World) (s x : Operand) {t e : TypeId}
    (ho : o.op = .call { callee := .builtin .append, args := #[s, x], argTypes := #[t, t] })
    (ht : Try.prog.underlying t = some (.slice e)) {z : Value} {size bytes : Nat} (hI : (Try.prog.info? e).map (fun i => (i.zero, i.size, i.bytes)) = some (some z, size, bytes)) (hzs : z.cells.size = size) (hsz : 0 < size)
    (base : Nat) (v : Value) (n : Nat) (xs us : List Value) (k : Nat) (hown : w.ownsRow base e size v n xs) (hus : us.length = k * size) (h1 : ∀ u ∈ us, u.oneCell' = true) (hs : a.eval s = v)
    {sz : Nat} (hx : a.eval x = .slice (some ⟨sz, 0, none⟩) k k) (hsize : sz = w.heap.size) (hm : n + k ≤ maxLen) (hl : (n + k) * bytes ≤ 140737488355328) (hbase : base ≤ w.heap.size)
    {w1 : World} (hw1 : w1 = w.alloc (.cells us.toArray e))
    (h : ∀ v' w', w'.ownsRow base e size v' (n + k) (xs ++ us) → w.grownBy w' v.ownBlock → K (a.put o.dst v') w') :
    o.wp Try.prog a w1 K Q :=
  wp_append_lit_at w s x ho ht hI hzs hsz base v n xs us k hown hus h1 hs hx hsize hm hl hbase hw1 fun v' w' h2 h3 _ => h v' w' h2 h3

/-- append(out, x): one element, of whatever type, behind those that the call itself has put together. -/
theorem wpList_append_elem {ops : Array Oper} {rest : List Oper} {o : Oper} {a : Act} {Q : Exit → Act → World → Prop} (w : World) (hgd : o.guard = none) (s x : Operand) {t e : TypeId}
    (ho : o.op = .call { callee := .builtin .append, args := #[s, x], argTypes := #[t, t] })
    (ht : Try.prog.underlying t = some (.slice e)) {z : Value} {size bytes : Nat} (hI : (Try.prog.info? e).map (fun i => (i.zero, i.size, i.bytes)) = some (some z, size, bytes)) (hzs : z.cells.size = size) (hsz : 0 < size)
    (base : Nat) (v : Value) (n : Nat) (xs us : List Value) (hown : w.ownsRow base e size v n xs) (hus : us.length = size) (h1 : ∀ u ∈ us, u.oneCell' = true) (hs : a.eval s = v)
    {sz : Nat} (hx : a.eval x = .slice (some ⟨sz, 0, none⟩) 1 1) (hsize : sz = w.heap.size) (hm : n + 1 ≤ maxLen) (hl : (n + 1) * bytes ≤ 140737488355328) (hbase : base ≤ w.heap.size)
    (h : ∀ v' w', w'.ownsRow base e size v' (n + 1) (xs ++ us) → w.grownBy w' v.ownBlock → wpList Try.prog ops Q rest (a.put o.dst v') w') :
    wpList Try.prog ops Q (o :: rest) a (w.alloc (.cells us.toArray e)) :=
  wpList_plain hgd fun _ hK => wp_append_lit w s x ho ht hI hzs hsz base v n xs us 1 hown (by omega) h1 hs hx hsize hm hl hbase rfl fun v' w' h2 h3 => hK _ _ (h v' w' h2 h3)

/-- The same, told besides that no older block but its own row holds the new one. -/
theorem wpList_append_elem_at {ops : Array Oper} {rest : List Oper} {o : Oper} {a : Act} {Q : Exit → Act → World → Prop} (w : World) (hgd : o.guard = none) (s x : Operand) {t e : TypeId}
    (ho : o.op = .call { callee := .builtin .append, args := #[s, x], argTypes := #[t, t] })
    (ht : Try.prog.underlying t = some (.slice e)) {z : Value} {size bytes : Nat} (hI : (Try.prog.info? e).map (fun i => (i.zero, i.size, i.bytes)) = some (some z, size, bytes)) (hzs : z.cells.size = size) (hsz : 0 < size)
    (base : Nat) (v : Value) (n : Nat) (xs us : List Value) (hown : w.ownsRow base e size v n xs) (hus : us.length = size) (h1 : ∀ u ∈ us, u.oneCell' = true) (hs : a.eval s = v)
    {sz : Nat} (hx : a.eval x = .slice (some ⟨sz, 0, none⟩) 1 1) (hsize : sz = w.heap.size) (hm : n + 1 ≤ maxLen) (hl : (n + 1) * bytes ≤ 140737488355328) (hbase : base ≤ w.heap.size)
    (h : ∀ v' w', w'.ownsRow base e size v' (n + 1) (xs ++ us) → w.grownBy w' v.ownBlock → (∀ g, g < w.heap.size → v.ownBlock ≠ some g → v'.ownBlock ≠ some g) → wpList Try.prog ops Q rest (a.put o.dst v') w') :
    wpList Try.prog ops Q (o :: rest) a (w.alloc (.cells us.toArray e)) :=
  wpList_plain hgd fun _ hK => wp_append_lit_at w s x ho ht hI hzs hsz base v n xs us 1 hown (by omega) h1 hs hx hsize hm hl hbase rfl fun v' w' h2 h3 h4 => hK _ _ (h v' w' h2 h3 h4)

/-- The same in a region that draws its order, k elements. -/
theorem step_append_lit {ops : Array Oper} {o : Oper} {a : Act} {K : Act → World → Prop} {Q : Exit → Act → World → Prop} {E : Prop} (w : World) (hgd : o.guard = none) (s x : Operand) {t e : TypeId}
    (ho : o.op = .call { callee := .builtin .append, args := #[s, x], argTypes := #[t, t] })
    (ht : Try.prog.underlying t = some (.slice e)) {z : Value} {size bytes : Nat} (hI : (Try.prog.info? e).map (fun i => (i.zero, i.size, i.bytes)) = some (some z, size, bytes)) (hzs : z.cells.size = size) (hsz : 0 < size)
    (base : Nat) (v : Value) (n : Nat) (xs us : List Value) (k : Nat) (hown : w.ownsRow base e size v n xs) (hus : us.length = k * size) (h1 : ∀ u ∈ us, u.oneCell' = true) (hs : a.eval s = v)
    {sz : Nat} (hx : a.eval x = .slice (some ⟨sz, 0, none⟩) k k) (hsize : sz = w.heap.size) (hm : n + k ≤ maxLen) (hl : (n + k) * bytes ≤ 140737488355328) (hbase : base ≤ w.heap.size)
    {w1 : World} (hw1 : w1 = w.alloc (.cells us.toArray e))
    (h : ∀ v' w', w'.ownsRow base e size v' (n + k) (xs ++ us) → w.grownBy w' v.ownBlock → K (a.put o.dst v') w') :
    if Region.wanted o (yielded ops a.tmps) = true then Oper.wp Try.prog o a w1 K Q else E := by
  have hw : Region.wanted o (yielded ops a.tmps) = true := by simp [Region.wanted, hgd]
  rw [if_pos hw]
  exact wp_append_lit w s x ho ht hI hzs hsz base v n xs us k hown hus h1 hs hx hsize hm hl hbase hw1 h

theorem below_grown {w w' : World} {base e size n : Nat} {v : Value} {xs : List Value} (hown : w.ownsRow base e size v n xs) (hg : w.grownBy w' v.ownBlock) (hbase : base ≤ w.heap.size) : Below base w w' :=
  (Below.refl base w).grown hg hbase fun k hk => (World.ownsRow.lt hown k hk).1

/-- append(out, c): one byte behind those that the call itself has put together. -/
theorem wpList_append_byte {ops : Array Oper} {rest : List Oper} {o : Oper} {a : Act} {Q : Exit → Act → World → Prop} (w : World) (hgd : o.guard = none) (s x : Operand)
    (ho : o.op = .call { callee := .builtin .append, args := #[s, x], argTypes := #[47, 47] })
    (base : Nat) (v : Value) (l : List UInt8) (u : Int) (hown : OwnB w base v l) (hs : a.eval s = v)
    {sz : Nat} (hx : a.eval x = .slice (some ⟨sz, 0, none⟩) 1 1) (hsize : sz = w.heap.size) (h0 : 0 ≤ u) (h1 : u < 256) (hl : l.length < 140737488355328) (hbase : base ≤ w.heap.size)
    (h : ∀ v' w', OwnB w' base v' (l ++ [UInt8.ofNat u.toNat]) → Below base w w' → wpList Try.prog ops Q rest (a.put o.dst v') w') :
    wpList Try.prog ops Q (o :: rest) a (w.alloc (.cells #[.int .u8 u] 5)) := by
  refine wpList_append_elem w hgd s x ho Try.underlying47 info_u8 rfl (by decide) base v l.length (bcells l) [.int .u8 u] hown rfl (by intro y hy; simp at hy; subst hy; rfl) hs hx hsize
    (by unfold maxLen; omega) (by omega) hbase ?_
  intro v' w' h2 h3
  refine h v' w' ?_ (below_grown hown h3 hbase)
  unfold OwnB
  rw [bcells_append, List.length_append]
  have : bcells [UInt8.ofNat u.toNat] = [.int .u8 u] := by simp only [bcells, List.map_cons, List.map_nil, ofNat_byte u h0 h1]
  rw [this]
  exact h2

/-- []byte{} -/
theorem OwnB.empty (w : World) (base : Nat) (hb : base ≤ w.heap.size) : OwnB (w.alloc (.cells #[] 5)) base (.slice (some ⟨w.heap.size, 0, none⟩) 0 0) [] :=
  World.ownsRow_made w #[] 0 hb (Nat.zero_le _) rfl

/-- string([]byte{c}) -/
theorem run_string_one (W : World) (u : Int) : (convert 47 9 (.slice (some ⟨W.heap.size, 0, none⟩) 1 1)).run Try.prog (W.alloc (.cells #[.int .u8 u] 5)) = .ok (.string ⟨#[UInt8.ofNat u.toNat]⟩) (W.alloc (.cells #[.int .u8 u] 5)) := by
  rw [run_convert_bytes_string _ 47 9 5 _ 1 1 Try.underlying47 Try.underlying5 Try.underlying9]
  have hl := run_loadCells_list (P := Try.prog) (W.alloc (.cells #[.int .u8 u] 5)) ⟨W.heap.size, 0, none⟩ [.int .u8 u] (fun j v hj => by
    match j, hj with
    | 0, hj =>
      simp at hj
      subst hj
      have e1 : (⟨W.heap.size, 0, none⟩ : Addr).add 0 = ⟨W.heap.size, 0, none⟩ := rfl
      rw [e1, cell_of_row _ W.heap.size 0 #[.int .u8 u] 5 (0, 0) (heap_alloc_new W _)]
      rfl)
  exact run_bytesToString _ ⟨W.heap.size, 0, none⟩ 1 1 [u] hl

/-- []byte{c} -/
theorem OwnB.one (w : World) (base : Nat) (hb : base ≤ w.heap.size) (u : Int) (h0 : 0 ≤ u) (h1 : u < 256) :
    OwnB (w.alloc (.cells #[.int .u8 u] 5)) base (.slice (some ⟨w.heap.size, 0, none⟩) 1 1) [UInt8.ofNat u.toNat] := by
  have h := World.ownsRow_lit (base := base) (e := 5) (size := 1) w #[.int .u8 u] 1 hb (by decide) rfl
  unfold OwnB
  have : bcells [UInt8.ofNat u.toNat] = [.int .u8 u] := by simp only [bcells, List.map_cons, List.map_nil, ofNat_byte u h0 h1]
  rw [this]
  exact h

theorem OwnB.len {w : World} {base g n cap : Nat} {l : List UInt8} (h : OwnB w base (.slice (some ⟨g, 0, none⟩) n cap) l) : n = l.length := by
  rcases h.2 with ⟨h', _⟩ | ⟨g', cap', cur, h', _⟩
  · cases h'
  · injection h' with _ h2 _

theorem OwnB.form {w : World} {base : Nat} {v : Value} {l : List UInt8} (h : OwnB w base v l) (hl : 0 < l.length) : ∃ g cap, v = .slice (some ⟨g, 0, none⟩) l.length cap ∧ base ≤ g := by
  obtain ⟨g, cap, h1, h2, _⟩ := World.ownsRow.form h hl
  exact ⟨g, cap, h1, h2⟩

theorem OwnB.cell {w : World} {base g n cap : Nat} {l : List UInt8} (h : OwnB w base (.slice (some ⟨g, 0, none⟩) n cap) l) (j : Nat) (hj : j < l.length) :
    w.cell? ⟨g, j, none⟩ = some (.int .u8 (l[j].toNat : Int)) := by
  obtain rfl := h.len
  rw [World.ownsRow.cellAt h j (by omega)]
  simp [bcells, List.getElem?_eq_getElem hj]

theorem OwnB.free {w : World} {base g n cap : Nat} {l : List UInt8} (h : OwnB w base (.slice (some ⟨g, 0, none⟩) n cap) l) (j : Nat) : w.frozen? ⟨g, j, none⟩ = false := by
  obtain rfl := h.len
  exact World.ownsRow.frozenAt h j

theorem OwnB.set {w : World} {base g n cap : Nat} {l : List UInt8} (h : OwnB w base (.slice (some ⟨g, 0, none⟩) n cap) l) (j : Nat) (u : Int) (h0 : 0 ≤ u) (h1 : u < 256) :
    OwnB (w.setCell ⟨g, j, none⟩ (.int .u8 u)) base (.slice (some ⟨g, 0, none⟩) n cap) (l.set j (UInt8.ofNat u.toNat)) := by
  obtain rfl := h.len
  have h2 := (World.ownsRow.stored h j (.int .u8 u)).1
  unfold OwnB
  have e1 : bcells (l.set j (UInt8.ofNat u.toNat)) = (bcells l).set j (.int .u8 u) := by
    unfold bcells
    rw [List.map_set, ofNat_byte u h0 h1]
  rw [e1, List.length_set]
  exact h2

theorem run_string_nil (w : World) (n c : Nat) : (convert 47 9 (.slice none n c)).run Try.prog w = .ok (.string ⟨#[]⟩) w := by
  exact run_convert_bytes_nil w 47 5 Try.underlying47 Try.underlying5 n c 9 Try.underlying9

/-- string(out) -/
theorem run_string_own (w : World) (base : Nat) (v : Value) (l : List UInt8) (h : OwnB w base v l) :
    (convert 47 9 v).run Try.prog w = .ok (.string ⟨l.toArray⟩) w := by
  rcases h.2 with ⟨rfl, h0⟩ | ⟨g, cap, cur, rfl, _⟩
  · obtain rfl : l = [] := List.eq_nil_of_length_eq_zero h0
    exact run_string_nil w 0 0
  · refine run_convert_bytes_back w 47 9 5 ⟨g, 0, none⟩ cap l Try.underlying47 Try.underlying5 Try.underlying9 ?_
    intro j hj
    refine World.ownsRow.cells h (g := g) rfl j _ ?_
    simp [bcells, List.getElem?_eq_getElem hj]

/-- Block g holds the bytes of s, as []byte(s) laid them. -/
def KeepB (w : World) (g : Nat) (s : ByteArray) : Prop :=
  ∃ cs fr, w.heap[g]? = some (.cells cs 5 fr) ∧ fr ≠ (0, 0) ∧ ∀ i (h : i < s.size), cs[i]? = some (.int .u8 (s[i].toNat : Int))

section
variable {w w' : World} {g : Nat} {s : ByteArray}
theorem KeepB.new (w : World) (s : ByteArray) (cap : Nat) : KeepB (w.alloc (.cells (bytesRow s cap) 5 ((bytesRow s cap).size, (bytesRow s cap).size + 1))) w.heap.size s :=
  ⟨_, _, heap_alloc_new w _, by simp, fun i h => bytesRow_at s cap i h⟩
theorem KeepB.lt (h : KeepB w g s) : g < w.heap.size := by
  obtain ⟨cs, fr, h1, _⟩ := h
  exact (Array.getElem?_eq_some_iff.1 h1).1
theorem KeepB.cell (h : KeepB w g s) (i : Nat) (hi : i < s.size) : w.cell? ⟨g, i, none⟩ = some (.int .u8 (s[i].toNat : Int)) := by
  obtain ⟨cs, fr, h1, _, h2⟩ := h
  rw [cell_of_row w g i cs _ fr h1, h2 i hi]
theorem KeepB.drew (h : KeepB w g s) : KeepB w.drew g s := h
theorem KeepB.alloc (h : KeepB w g s) (o : Obj) : KeepB (w.alloc o) g s := by
  have hl := h.lt
  obtain ⟨cs, fr, h1, h2⟩ := h
  exact ⟨cs, fr, (Below.heap_alloc w o g hl).trans h1, h2⟩
theorem KeepB.below {B : Nat} (h : KeepB w g s) (hb : Below B w w') (hg : g < B) : KeepB w' g s := by
  obtain ⟨cs, fr, h1, h2⟩ := h
  exact ⟨cs, fr, (hb.block g hg).trans h1, h2⟩
theorem KeepB.grown {base e size n : Nat} {v : Value} {xs : List Value} (h : KeepB w g s) (hown : w.ownsRow base e size v n xs) (hg : w.grownBy w' v.ownBlock) : KeepB w' g s := by
  have hl := h.lt
  obtain ⟨cs, fr, h1, h2, h3⟩ := h
  refine ⟨cs, fr, (hg.block g hl ?_).trans h1, h2, h3⟩
  intro he
  rcases hown.2 with ⟨rfl, _⟩ | ⟨g', cap, cur, rfl, _, hh, _⟩
  · simp [Value.ownBlock] at he
  · have : g = g' := by simpa [Value.ownBlock] using he
    subst this
    rw [hh] at h1
    simp only [Option.some.injEq, Obj.cells.injEq] at h1
    exact h2 h1.2.2.symm
end
end Go.Proofs.Ytjnglahjngiofaa
namespace Go.Proofs.Ytjnglahjngiofaa

/-- The first k bytes of V. -/
def bytesN (V k : Nat) : List UInt8 := (List.range k).map fun i => UInt8.ofNat (V / 256 ^ i % 256)
theorem bytesN_length (V k : Nat) : (bytesN V k).length = k := by simp [bytesN]
theorem bytesN_succ (V k : Nat) : bytesN V (k + 1) = bytesN V k ++ [UInt8.ofNat (V / 256 ^ k % 256)] := by simp [bytesN, List.range_succ]
theorem bytesN_at (V k i : Nat) (h : i < k) : (bytesN V k)[i]? = some (UInt8.ofNat (V / 256 ^ i % 256)) := by simp [bytesN, h]
/-- The number of bytes. -/
def leN : List UInt8 → Nat
  | [] => 0
  | c :: r => c.toNat + 256 * leN r

theorem pow256 (k : Nat) : 256 ^ k = 2 ^ (8 * k) := by rw [Nat.pow_mul]
theorem pow_pos2 (k : Nat) : 0 < 2 ^ k := Nat.pow_pos (by decide)

theorem leN_lt (l : List UInt8) : leN l < 256 ^ l.length := by
  induction l with
  | nil => simp [leN]
  | cons c r ih =>
    have := c.toNat_lt
    simp only [leN, List.length_cons, Nat.pow_succ]
    omega
theorem leN_append (l m : List UInt8) : leN (l ++ m) = leN l + leN m * 256 ^ l.length := by
  induction l with
  | nil => simp [leN]
  | cons c r ih =>
    simp only [leN, List.cons_append, List.length_cons, ih, Nat.pow_succ, Nat.mul_add]
    have : 256 * (leN m * 256 ^ r.length) = leN m * (256 ^ r.length * 256) := by rw [Nat.mul_left_comm, Nat.mul_comm 256]
    omega
theorem leN_bytesN (V k : Nat) : leN (bytesN V k) = V % 256 ^ k := by
  induction k with
  | zero => simp [bytesN, leN]; omega
  | succ k ih =>
    rw [bytesN_succ, leN_append, ih, bytesN_length, Nat.pow_succ, Nat.mod_mul]
    simp [leN]
    exact Nat.mul_comm _ _
theorem leN_inj (l m : List UInt8) (hl : l.length = m.length) (h : leN l = leN m) : l = m := by
  induction l generalizing m with
  | nil => cases m with
    | nil => rfl
    | cons => simp at hl
  | cons c r ih => cases m with
    | nil => simp at hl
    | cons d t =>
      have h1 := c.toNat_lt
      have h2 := d.toNat_lt
      simp only [leN] at h
      have e1 : c.toNat = d.toNat := by omega
      have e2 : leN r = leN t := by omega
      rw [UInt8.toNat_inj.1 e1, ih t (by simpa using hl) e2]
theorem bytesN_leN (l : List UInt8) : bytesN (leN l) l.length = l := by
  refine leN_inj _ _ (bytesN_length _ _) ?_
  rw [leN_bytesN, Nat.mod_eq_of_lt (leN_lt l)]

/-- A byte of the text. -/
theorem leN_byte (l : List UInt8) (i : Nat) (h : i < l.length) : leN l / 256 ^ i % 256 = (l[i]).toNat := by
  have e := bytesN_at (leN l) l.length i h
  rw [bytesN_leN, List.getElem?_eq_getElem h] at e
  injection e with e
  rw [e]
  simp
theorem leN_out (l : List UInt8) (i : Nat) (h : ¬ i < l.length) : leN l / 256 ^ i % 256 = 0 := by
  rw [Nat.div_eq_of_lt]
  exact Nat.lt_of_lt_of_le (leN_lt l) (Nat.pow_le_pow_right (by decide) (by omega))

theorem bytesN_low (V z c k : Nat) (h : 8 * k ≤ c) : bytesN (V + z * 2 ^ c) k = bytesN V k := by
  unfold bytesN
  refine List.map_congr_left fun i hi => ?_
  have hik : i < k := List.mem_range.1 hi
  have e : z * 2 ^ c = 2 ^ (8 * i) * (z * 2 ^ (c - 8 * i - 8) * 256) := by
    have : (2 : Nat) ^ c = 2 ^ (8 * i) * 2 ^ (c - 8 * i - 8) * 256 := by
      rw [show (256 : Nat) = 2 ^ 8 by decide, ← Nat.pow_add, ← Nat.pow_add]
      congr 1; omega
    rw [this]
    simp only [Nat.mul_comm, Nat.mul_left_comm, Nat.mul_assoc]
  rw [pow256, e, Nat.add_mul_div_left _ _ (pow_pos2 _), Nat.add_mul_mod_self_right]

/-- A number that is put behind the first c bits. -/
theorem put_lt (V x n c : Nat) (hV : V < 2 ^ c) : V + x % 2 ^ n * 2 ^ c < 2 ^ (c + n) := by
  have h1 : x % 2 ^ n < 2 ^ n := Nat.mod_lt _ (pow_pos2 n)
  have h2 : (x % 2 ^ n + 1) * 2 ^ c ≤ 2 ^ n * 2 ^ c := Nat.mul_le_mul_right _ h1
  rw [Nat.add_mul, Nat.one_mul] at h2
  rw [Nat.add_comm c n, Nat.pow_add]
  omega
theorem put_hi (V z c k : Nat) (h : k ≤ c) : (V + z * 2 ^ c) / 2 ^ k = V / 2 ^ k + z * 2 ^ (c - k) := by
  have e : z * 2 ^ c = 2 ^ k * (z * 2 ^ (c - k)) := by
    have : (2 : Nat) ^ c = 2 ^ k * 2 ^ (c - k) := by rw [← Nat.pow_add]; congr 1; omega
    rw [this]
    simp only [Nat.mul_left_comm]
  rw [e, Nat.add_mul_div_left _ _ (pow_pos2 _)]
theorem or_add (a b n : Nat) (h : a < 2 ^ n) : a ||| b * 2 ^ n = a + b * 2 ^ n := by
  have := Nat.shiftLeft_add_eq_or_of_lt h b
  rw [Nat.shiftLeft_eq] at this
  rw [Nat.or_comm, ← this, Nat.add_comm]
theorem and_mask (x n : Nat) : x &&& (2 ^ n - 1) = x % 2 ^ n := Nat.and_two_pow_sub_one_eq_mod x n

/-- The first n bits the other way about. -/
def rev (x : Nat) : Nat → Nat
  | 0 => 0
  | n + 1 => 2 * rev x n + x / 2 ^ n % 2
theorem rev_lt (x n : Nat) : rev x n < 2 ^ n := by
  induction n with
  | zero => simp [rev]
  | succ n ih => simp only [rev, Nat.pow_succ]; omega
theorem rev_mod (x n m : Nat) (h : n ≤ m) : rev (x % 2 ^ m) n = rev x n := by
  induction n with
  | zero => rfl
  | succ n ih =>
    have e : x % 2 ^ m / 2 ^ n % 2 = x / 2 ^ n % 2 := by
      have e1 : x % 2 ^ m / 2 ^ n = x / 2 ^ n % 2 ^ (m - n) := by
        have : (2 : Nat) ^ m = 2 ^ n * 2 ^ (m - n) := by rw [← Nat.pow_add]; congr 1; omega
        rw [this, Nat.mod_mul_right_div_self]
      rw [e1]
      have : (2 : Nat) ^ (m - n) = 2 * 2 ^ (m - n - 1) := by
        rw [← Nat.pow_succ']; congr 1; omega
      rw [this, Nat.mod_mul_right_mod]
    simp only [rev, ih (by omega), e]
theorem rev_one (x n : Nat) : rev x (n + 1) = rev (x / 2) n + x % 2 * 2 ^ n := by
  induction n with
  | zero => simp [rev]
  | succ n ih =>
    have e : rev x (n + 2) = 2 * rev x (n + 1) + x / 2 ^ (n + 1) % 2 := rfl
    have e2 : rev (x / 2) (n + 1) = 2 * rev (x / 2) n + x / 2 / 2 ^ n % 2 := rfl
    have e3 : x / 2 / 2 ^ n = x / 2 ^ (n + 1) := by rw [Nat.div_div_eq_div_mul, Nat.pow_succ']
    rw [e, ih, e2, e3, Nat.pow_succ]
    simp only [Nat.mul_add]
    have : 2 * (x % 2 * 2 ^ n) = x % 2 * (2 ^ n * 2) := by
      rw [Nat.mul_left_comm, Nat.mul_comm 2]
    omega
theorem rev_rev (x n : Nat) : rev (rev x n) n = x % 2 ^ n := by
  induction n generalizing x with
  | zero => simp [rev]; omega
  | succ n ih =>
    have h := rev_lt (x / 2) n
    rw [rev_one x n]
    have e1 : rev (rev (x / 2) n + x % 2 * 2 ^ n) n = rev (rev (x / 2) n) n := by
      have : (rev (x / 2) n + x % 2 * 2 ^ n) % 2 ^ n = rev (x / 2) n := by
        rw [Nat.add_mul_mod_self_right, Nat.mod_eq_of_lt h]
      rw [← rev_mod _ n n (Nat.le_refl n), this]
    have e2 : (rev (x / 2) n + x % 2 * 2 ^ n) / 2 ^ n = x % 2 := by
      rw [Nat.add_mul_div_right _ _ (pow_pos2 n), Nat.div_eq_of_lt h]; omega
    simp only [rev, e1, e2, ih]
    rw [Nat.pow_succ', Nat.mod_mul]
    omega
end Go.Proofs.Ytjnglahjngiofaa
namespace Go.Proofs.Ytjnglahjngiofaa
open Go.RowKit
set_option maxRecDepth 100000

theorem turn_step (x n k : Nat) (hx : x < 4294967296) (hn : n ≤ 32) (h : k < n) :
    bits .or .u32 ((rev x k : Int) * 2 ^ (n - k)) (bits .and .u32 ((x : Int) / 2 ^ k) 1 * 2 ^ (n - 1 - k) % 4294967296) = ((rev x (k + 1) * 2 ^ (n - (k + 1)) : Nat) : Int) := by
  have e1 : ((x : Int) / 2 ^ k) = ((x / 2 ^ k : Nat) : Int) := by simp
  have hlt : x / 2 ^ k < 4294967296 := Nat.lt_of_le_of_lt (Nat.div_le_self _ _) hx
  have e2 : bits .and .u32 ((x / 2 ^ k : Nat) : Int) 1 = ((x / 2 ^ k % 2 : Nat) : Int) := by
    have := u32_and_nat (x / 2 ^ k) 1 hlt (by decide)
    rw [Nat.and_one_is_mod] at this
    exact this
  rw [e1, e2]
  have hb : x / 2 ^ k % 2 < 2 := Nat.mod_lt _ (by decide)
  obtain ⟨b, hb0⟩ : ∃ b, x / 2 ^ k % 2 = b := ⟨_, rfl⟩
  rw [hb0] at hb ⊢
  have hp : 2 ^ (n - 1 - k) ≤ 2 ^ 31 := Nat.pow_le_pow_right (by decide) (by omega)
  have hp2 : (2 : Nat) ^ 31 = 2147483648 := by decide
  have hb2 : b * 2 ^ (n - 1 - k) ≤ 2 ^ (n - 1 - k) := by
    have := Nat.mul_le_mul_right (2 ^ (n - 1 - k)) (show b ≤ 1 by omega)
    omega
  have e3 : ((b : Int) * 2 ^ (n - 1 - k) % 4294967296) = ((b * 2 ^ (n - 1 - k) : Nat) : Int) := by
    have : ((b : Int) * 2 ^ (n - 1 - k)) = ((b * 2 ^ (n - 1 - k) : Nat) : Int) := by simp
    rw [this]
    omega
  have e4 : ((rev x k : Int) * 2 ^ (n - k)) = ((rev x k * 2 ^ (n - k) : Nat) : Int) := by simp
  have hr := rev_lt x k
  have h5 : rev x k * 2 ^ (n - k) + 2 ^ (n - k) ≤ 2 ^ n := by
    have := Nat.mul_le_mul_right (2 ^ (n - k)) (show rev x k + 1 ≤ 2 ^ k from hr)
    rw [← Nat.pow_add, Nat.add_mul, Nat.one_mul, show k + (n - k) = n by omega] at this
    exact this
  have h6 : 2 ^ n ≤ 2 ^ 32 := Nat.pow_le_pow_right (by decide) hn
  have h7 : (2 : Nat) ^ 32 = 4294967296 := by decide
  have h8 : 2 ^ (n - k) = 2 * 2 ^ (n - 1 - k) := by rw [← Nat.pow_succ']; congr 1; omega
  have hpp := pow_pos2 (n - 1 - k)
  rw [e3, e4, u32_or_nat _ _ (by omega) (by omega), Nat.or_comm, or_add _ _ _ (by omega)]
  congr 1
  rw [show n - (k + 1) = n - 1 - k by omega, h8]
  simp only [rev, hb0]
  rw [Nat.add_mul, Nat.mul_left_comm, ← Nat.mul_assoc, Nat.add_comm]

theorem turn_any (x n : Nat) (hx : x < 4294967296) (hn : n ≤ 32) (w : World) :
    Calls Try.prog 65 #[.int .u32 (x : Int), .int .i64 (n : Int)] w fun e w' => e = .returned (.int .u32 (rev x n : Int)) ∧ w' = w := by
  go_enter Try.func65, Try.ntmps65
  go_wp2
  go_loop [5, 6, 8] (fun y _ i => ∃ k : Nat, k ≤ n ∧ i = .int .i64 (k : Int) ∧ y = .int .u32 (rev x k * 2 ^ (n - k) : Nat))
    (fun _ _ i => n - (intOf i).toNat)
  case atStart => exact ⟨0, by omega, rfl, by simp [rev]⟩
  case round =>
    obtain ⟨k, hk, rfl, rfl⟩ := hrel
    by_cases hlt : k < n
    · have hst := turn_step x n k hx hn hlt
      go_wp2
      go_round
      case rel => exact ⟨k + 1, by omega, by go_num, rfl⟩
      case measure => simp [intOf]; omega
    · obtain rfl : k = n := by omega
      go_wp2
      go_ret
      exact ⟨by simp, rfl⟩
end Go.Proofs.Ytjnglahjngiofaa
namespace Go.Proofs.Ytjnglahjngiofaa
open Go.RowKit
set_option maxRecDepth 100000

/-- The sink at block P, whose full bytes are v, holds the first c bits of V. -/
def SinkAt (w : World) (P : Nat) (v : Value) (V c : Nat) : Prop :=
  Blk w P 84 #[v, .int .u64 ((V / 2 ^ (8 * (c / 8)) : Nat) : Int), .int .i64 ((c % 8 : Nat) : Int)] ∧ OwnB w (P + 1) v (bytesN V (c / 8)) ∧ V < 2 ^ c
/-- Nothing changed but the sink at P and its row v. -/
def Chg (w w' : World) (P : Nat) (v : Value) : Prop :=
  (w'.os = w.os ∧ w'.tape = w.tape ∧ w'.output = w.output) ∧ w.heap.size ≤ w'.heap.size ∧ ∀ g, g < w.heap.size → g ≠ P → v.ownBlock ≠ some g → w'.heap[g]? = w.heap[g]?

/-- The nearest of 0 to 32. -/
def Clamp (N : Int) (k : Nat) : Prop := (N < 0 ∧ k = 0) ∨ (N = (k : Int) ∧ k ≤ 32) ∨ (32 < N ∧ k = 32)

theorem Chg.refl (w : World) (P : Nat) (v : Value) : Chg w w P v := ⟨⟨rfl, rfl, rfl⟩, Nat.le_refl _, fun _ _ _ _ => rfl⟩
def Fresh (w : World) (v v' : Value) : Prop := ∀ g, g < w.heap.size → v.ownBlock ≠ some g → v'.ownBlock ≠ some g
theorem Chg.trans {w w1 w2 : World} {P : Nat} {v v1 : Value} (h1 : Chg w w1 P v) (hf : Fresh w v v1) (h2 : Chg w1 w2 P v1) : Chg w w2 P v :=
  ⟨⟨h2.1.1.trans h1.1.1, h2.1.2.1.trans h1.1.2.1, h2.1.2.2.trans h1.1.2.2⟩, Nat.le_trans h1.2.1 h2.2.1, fun g hg hP hv => (h2.2.2 g (Nat.lt_of_lt_of_le hg h1.2.1) hP (hf g hg hv)).trans (h1.2.2 g hg hP hv)⟩
theorem Chg.below {w0 w w' : World} {P : Nat} {v : Value} (h : Chg w w' P v) (hb : Below w0.heap.size w0 w) (hP : w0.heap.size ≤ P) (hv : ∀ g, v.ownBlock = some g → w0.heap.size ≤ g) : Below w0.heap.size w0 w' :=
  ⟨h.1.1.trans hb.os, h.1.2.1.trans hb.tape, h.1.2.2.trans hb.output, Nat.le_trans hb.size h.2.1, fun g hg =>
    (h.2.2 g (Nat.lt_of_lt_of_le hg hb.size) (by omega) (fun e => by have := hv g e; omega)).trans (hb.block g hg)⟩
theorem Fresh.refl (w : World) (v : Value) : Fresh w v v := fun _ _ h => h
theorem Fresh.trans {w w1 : World} {v v1 v2 : Value} (h1 : Fresh w v v1) (hs : w.heap.size ≤ w1.heap.size) (h2 : Fresh w1 v1 v2) : Fresh w v v2 := fun g hg h => h2 g (Nat.lt_of_lt_of_le hg hs) (h1 g hg h)

/-- The step of append in a region that draws its order, told besides that no older block but its own row holds the new one. -/
theorem step_append_lit_at {ops : Array Oper} {o : Oper} {a : Act} {K : Act → World → Prop} {Q : Exit → Act → World → Prop} {E : Prop} (w : World) (hgd : o.guard = none) (s x : Operand) {t e : TypeId}
    (ho : o.op = .call { callee := .builtin .append, args := #[s, x], argTypes := #[t, t] })
    (ht : Try.prog.underlying t = some (.slice e)) {z : Value} {size bytes : Nat} (hI : (Try.prog.info? e).map (fun i => (i.zero, i.size, i.bytes)) = some (some z, size, bytes)) (hzs : z.cells.size = size) (hsz : 0 < size)
    (base : Nat) (v : Value) (n : Nat) (xs us : List Value) (k : Nat) (hown : w.ownsRow base e size v n xs) (hus : us.length = k * size) (h1 : ∀ u ∈ us, u.oneCell' = true) (hs : a.eval s = v)
    {sz : Nat} (hx : a.eval x = .slice (some ⟨sz, 0, none⟩) k k) (hsize : sz = w.heap.size) (hm : n + k ≤ maxLen) (hl : (n + k) * bytes ≤ 140737488355328) (hbase : base ≤ w.heap.size)
    {w1 : World} (hw1 : w1 = w.alloc (.cells us.toArray e))
    (h : ∀ v' w', w'.ownsRow base e size v' (n + k) (xs ++ us) → w.grownBy w' v.ownBlock → (∀ g, g < w.heap.size → v.ownBlock ≠ some g → v'.ownBlock ≠ some g) → K (a.put o.dst v') w') :
    if Region.wanted o (yielded ops a.tmps) = true then Oper.wp Try.prog o a w1 K Q else E := by
  have hw : Region.wanted o (yielded ops a.tmps) = true := by simp [Region.wanted, hgd]
  rw [if_pos hw]
  exact wp_append_lit_at w s x ho ht hI hzs hsz base v n xs us k hown hus h1 hs hx hsize hm hl hbase hw1 h

def cellNat (w : World) (p : Addr) : Nat := (intOf ((w.cell? p).getD undef)).toNat
theorem cellNat_of {w : World} {p : Addr} {n : Nat} (h : w.cell? p = some (.int .i64 (n : Int))) : cellNat w p = n := by unfold cellNat; rw [h]; simp [intOf]

theorem mask_one (x k : Nat) (hx : x < 4294967296) (hk : k ≤ 32) : bits .and .u64 (x : Int) ((2 : Int) ^ k - 1) = ((x % 2 ^ k : Nat) : Int) := by
  have hp := pow_pos2 k
  have h6 : 2 ^ k ≤ 2 ^ 32 := Nat.pow_le_pow_right (by decide) hk
  have h7 : (2 : Nat) ^ 32 = 4294967296 := by decide
  have e : (2 : Int) ^ k - 1 = ((2 ^ k - 1 : Nat) : Int) := by
    have : (2 : Int) ^ k = ((2 ^ k : Nat) : Int) := by simp
    omega
  rw [e, u64_and_nat _ _ (by omega) (by omega), and_mask]
theorem wrap_pow (k : Nat) (hk : k ≤ 32) : IntKind.u64.wrap (IntKind.u64.wrap ((2 : Int) ^ k) - 1) = (2 : Int) ^ k - 1 := by
  have hp := pow_pos2 k
  have h6 : 2 ^ k ≤ 2 ^ 32 := Nat.pow_le_pow_right (by decide) hk
  have h7 : (2 : Nat) ^ 32 = 4294967296 := by decide
  have : (2 : Int) ^ k = ((2 ^ k : Nat) : Int) := by simp
  rw [this, IntKind.wrap_u64, IntKind.wrap_u64]
  omega

theorem own_cell {w : World} {base e size n : Nat} {v : Value} {xs : List Value} (h : w.ownsRow base e size v n xs) (P i : Nat) (hP : P < base) (u : Value) : (w.setCell ⟨P, i, none⟩ u).ownsRow base e size v n xs := by
  refine ⟨h.1, ?_⟩
  rcases h.2 with hn | ⟨g, cap, cur, rfl, hbb, hh, r⟩
  · exact .inl hn
  · exact .inr ⟨g, cap, cur, rfl, hbb, (heap_setCell_other w ⟨P, i, none⟩ g u (by show g ≠ P; omega)).trans hh, r⟩

/-- What the loop of Put holds: j bytes are full. -/
def PutAt (w : World) (P : Nat) (v : Value) (V c j : Nat) : Prop :=
  Blk w P 84 #[v, .int .u64 ((V / 2 ^ (8 * j) : Nat) : Int), .int .i64 ((c - 8 * j : Nat) : Int)] ∧ OwnB w (P + 1) v (bytesN V j)

theorem own_byte {w : World} {base : Nat} {v : Value} {U j L : Nat} (hL : U / 2 ^ (8 * j) = L) (h : w.ownsRow base 5 1 v ((bytesN U j).length + 1) (bcells (bytesN U j) ++ [.int .u8 ((L : Int) % 256)])) : OwnB w base v (bytesN U (j + 1)) := by
  unfold OwnB
  rw [bytesN_succ, bcells_append, List.length_append, pow256, hL]
  have e : bcells [UInt8.ofNat (L % 256)] = [.int .u8 ((L : Int) % 256)] := by
    simp [bcells]
  rw [e]
  exact h
theorem chg_step {w wr w2 : World} {P : Nat} {v v1 : Value} (hC : Chg w wr P v) (hF : Fresh w v v1) (hg : wr.drew.grownBy w2 v1.ownBlock) (a b c : Value) :
    Chg w (((w2.setCell ⟨P, 0, none⟩ a).setCell ⟨P, 1, none⟩ b).setCell ⟨P, 2, none⟩ c) P v := by
  refine Chg.trans hC hF ⟨⟨hg.os, hg.tape, hg.output⟩, ?_, fun g hg1 hP hv => ?_⟩
  · simp only [World.size_setCell]; exact hg.size
  · rw [heap_setCell_other _ _ _ _ (by simpa using hP), heap_setCell_other _ _ _ _ (by simpa using hP), heap_setCell_other _ _ _ _ (by simpa using hP)]
    exact hg.block g hg1 (fun h => hv h.symm)

set_option maxHeartbeats 8000000 in
theorem sinkPut_any (P : Nat) (v : Value) (V c x k : Nat) (N : Int) (hx : x < 4294967296) (hN : Clamp N k) (hc : c ≤ 1000000000) (w : World) (hS : SinkAt w P v V c) :
    Calls Try.prog 40 #[.pointer (some ⟨P, 0, none⟩), .int .u32 (x : Int), .int .i64 N] w fun e w' =>
      e = .returned (.tuple #[]) ∧ ∃ v', SinkAt w' P v' (V + x % 2 ^ k * 2 ^ c) (c + k) ∧ Chg w w' P v ∧ Fresh w v v' := by
  have hk : k ≤ 32 := by unfold Clamp at hN; omega
  obtain ⟨hB, hO, hV⟩ := hS
  have hc1 := hB.cell 0
  have hc2 := hB.cell 1
  have hc3 := hB.cell 2
  have hf1 := hB.frozen 0
  have hf2 := hB.frozen 1
  have hf3 := hB.frozen 2
  have hV' := put_lt V x k c hV
  have hT := put_hi V (x % 2 ^ k) c (8 * (c / 8)) (by omega)
  have hA2 : V / 2 ^ (8 * (c / 8)) < 2 ^ (c % 8) := by
    rw [Nat.div_lt_iff_lt_mul (pow_pos2 _), ← Nat.pow_add, show c % 8 + 8 * (c / 8) = c by omega]
    exact hV
  rw [show c - 8 * (c / 8) = c % 8 by omega] at hT
  have hlow := bytesN_low V (x % 2 ^ k) c (c / 8) (by omega)
  obtain ⟨A, hA⟩ : ∃ A, V / 2 ^ (8 * (c / 8)) = A := ⟨_, rfl⟩
  obtain ⟨m, hm⟩ : ∃ m, c % 8 = m := ⟨_, rfl⟩
  obtain ⟨e, he⟩ : ∃ e, x % 2 ^ k = e := ⟨_, rfl⟩
  have hmk := mask_one x k hx hk
  have hwk := wrap_pow k hk
  rw [hA] at hA2 hT
  rw [hm] at hA2 hT
  rw [he] at hmk hT hlow hV' ⊢
  have hm8 : m < 8 := by omega
  have he2 : e < 2 ^ k := by rw [← he]; exact Nat.mod_lt _ (pow_pos2 k)
  have hE : e * 2 ^ m + 2 ^ m ≤ 549755813888 := by
    have h1 := Nat.mul_le_mul_right (2 ^ m) (show e + 1 ≤ 2 ^ k from he2)
    rw [← Nat.pow_add, Nat.add_mul, Nat.one_mul] at h1
    have h2 : (2 : Nat) ^ (k + m) ≤ 2 ^ 39 := Nat.pow_le_pow_right (by decide) (by omega)
    have h3 : (2 : Nat) ^ 39 = 549755813888 := by decide
    omega
  have hw1 : IntKind.u64.wrap ((e : Int) * 2 ^ m) = ((e * 2 ^ m : Nat) : Int) := by
    have : (e : Int) * 2 ^ m = ((e * 2 ^ m : Nat) : Int) := by simp
    rw [this, IntKind.wrap_u64]; omega
  have hor : bits .or .u64 (A : Int) ((e * 2 ^ m : Nat) : Int) = ((A + e * 2 ^ m : Nat) : Int) := by
    rw [u64_or_nat _ _ (by omega) (by omega), or_add _ _ _ hA2]
  simp only [hA, hm] at hB hc1 hc2 hc3
  simp at hc1 hc2 hc3
  have HV := Lib.hid hV
  have HV' := Lib.hid hV'
  have Hlow := Lib.hid hlow
  have HT := Lib.hid hT
  have HA2 := Lib.hid hA2
  have HA := Lib.hid hA
  have Hm := Lib.hid hm
  have He := Lib.hid he
  have He2 := Lib.hid he2
  clear hV hV' hlow hT hA2 hA hm he he2
  obtain ⟨E, hE0⟩ : ∃ E, e * 2 ^ m = E := ⟨_, rfl⟩
  rw [hE0] at hw1 hor hE HT
  have HE := Lib.hid hE0
  clear hE0
  obtain ⟨U, HU⟩ : ∃ U, Hid (V + e * 2 ^ c = U) := ⟨_, rfl⟩
  rw [HU.out] at HT HV' Hlow ⊢
  go_enter Try.func40, Try.ntmps40
  obtain ⟨K, HK, hK32⟩ : ∃ K, Hid (K = k) ∧ K ≤ 32 := ⟨k, rfl, hk⟩
  obtain ⟨M1, HM1⟩ : ∃ M : Int, Hid ((if (32 : Int) < N then 32 else N) = M) := ⟨_, Lib.hid (Eq.refl _)⟩
  have hmin : ∀ W, Sem.run Try.prog (Builtin.min_ #[3, 3] 3 #[.int .i64 N, .int .i64 32]) W = .ok (.int .i64 M1) W := fun W => by
    rw [← HM1.out]
    show Result.ok (Value.int .i64 (if (32 : Int) < N then 32 else N)) W = _
    rfl
  have hmax : ∀ W, Sem.run Try.prog (Builtin.max_ #[3, 3] 3 #[.int .i64 0, .int .i64 M1]) W = .ok (.int .i64 (K : Int)) W := fun W => by
    have e : (if M1 > 0 then M1 else 0) = (K : Int) := by
      rw [← HM1.out, HK.out]
      unfold Clamp at hN
      split <;> split <;> omega
    show Result.ok (Value.int .i64 (if M1 > 0 then M1 else 0)) W = _
    rw [e]
  rw [← HK.out] at hmk hwk
  go_wp2_with fail
  clear hmin hmax
  go_region
  all_goals go_wp2_with fail
  go_loopw [38] (fun _ wr => ∃ j v', c / 8 ≤ j ∧ 8 * j ≤ c + K ∧ PutAt wr P v' U (c + K) j ∧ Chg w wr P v ∧ Fresh w v v')
    (fun _ wr => cellNat wr ⟨P, 2, none⟩)
  case atStart =>
    refine ⟨c / 8, v, Nat.le_refl _, by omega, ⟨?_, ?_⟩, ?_, Fresh.refl _ _⟩
    · rw [HT.out, show c + K - 8 * (c / 8) = m + K by have := Hm.out; omega, HK.out]
      exact (hB.set_ 1 (.int .u64 ((A + E : Nat) : Int))).drew.set_ 2 _
    · rw [Hlow.out]
      exact own_cell (own_cell hO P 1 (by omega) _) P 2 (by omega) _
    · exact ⟨⟨rfl, rfl, rfl⟩, by simp, fun g hg hP hv => (heap_setCell_other _ _ _ _ (by simpa using hP)).trans (heap_setCell_other _ _ _ _ (by simpa using hP))⟩
  case round =>
    clear hB hO hc1 hc2 hc3 hf1 hf2 hf3
    obtain ⟨j, v1, hj, hjc, ⟨hB, hO⟩, hC, hF⟩ := hrel
    have hc1 := hB.cell 0
    have hc2 := hB.cell 1
    have hc3 := hB.cell 2
    have hf1 := hB.frozen 0
    have hf2 := hB.frozen 1
    have hf3 := hB.frozen 2
    have hLe : U / 2 ^ (8 * j) ≤ A + E := by
      rw [← HT.out]
      exact Nat.div_le_div_left (Nat.pow_le_pow_right (by decide) (by omega)) (pow_pos2 _)
    have HA2' := HA2.out
    have hLl : U / 2 ^ (8 * j) < 549755813888 := by omega
    have hM := cellNat_of hc3
    obtain ⟨r, hr⟩ : ∃ r, c + K - 8 * j = r := ⟨_, rfl⟩
    obtain ⟨L, hL⟩ : ∃ L, U / 2 ^ (8 * j) = L := ⟨_, rfl⟩
    simp only [hr, hL] at hB hc1 hc2 hc3 hM
    rw [hL] at hLl
    have hlen := bytesN_length U j
    have Hr := Lib.hid hr
    have HL := Lib.hid hL
    simp at hc1 hc2 hc3
    have hrl : r ≤ 1000000032 := by omega
    have hPl := hB.lt
    clear hr hL hLe HA2' hmk hwk hw1 hor
    by_cases h8 : 8 ≤ r
    · go_wp2_with fail
      have hne : v1.ownBlock ≠ some P := fun h => by have := (World.ownsRow.lt hO _ h).1; omega
      go_region_law (refine step_append_lit_at wr.drew rfl (.tmp 51) (.tmp 57) rfl Try.underlying47 info_u8 rfl (by decide) (P + 1) v1 (bytesN U j).length (bcells (bytesN U j)) [.int .u8 ((L : Int) % 256)] 1 hO.drew rfl ?_ ?_ (sz := wr.heap.size) ?_ ?_ ?_ ?_ hPl ?_ ?_; intro y hy; simp at hy; subst hy; rfl; rfl; rfl; rfl; rw [hlen]; unfold maxLen; omega; rw [hlen]; omega; rfl; intro v2 w2 hown2 hg2 hat2; obtain ⟨g2, cap2, rfl, hg2b⟩ := World.ownsRow.form hown2 (Nat.succ_pos _); have hB2 := hB.drew.grown hg2 (fun h => hne h.symm); have hd1 := hB2.cell 0; have hd2 := hB2.cell 1; have hd3 := hB2.cell 2; have hfd1 := hB2.frozen 0; have hfd2 := hB2.frozen 1; have hfd3 := hB2.frozen 2; simp at hd1 hd2 hd3)
      all_goals
        go_wp2_with fail
        go_roundw
        case rel =>
          have hown3 := own_byte HL.out hown2
          rw [hlen] at hown3
          refine ⟨j + 1, _, by omega, by have := Hr.out; omega, ⟨?_, own_cell (own_cell (own_cell (hown3) P 0 (by omega) _) P 1 (by omega) _) P 2 (by omega) _⟩, chg_step hC hF hg2 _ _ _, hF.trans hC.2.1 (by rw [← hlen]; exact hat2)⟩
          have e1 : U / 2 ^ (8 * (j + 1)) = L / 256 := by
            rw [← HL.out, Nat.div_div_eq_div_mul, show (256 : Nat) = 2 ^ 8 by decide, ← Nat.pow_add]
            congr 1
          have e2 : ((c + K - 8 * (j + 1) : Nat) : Int) = (r : Int) - 8 := by have := Hr.out; omega
          rw [e1, e2]
          exact ((hB2.set_ 0 _).set_ 1 _).set_ 2 _
        case measure =>
          have hM2 : cellNat ((((w2.setCell ⟨P, 0, none⟩ (.slice (some ⟨g2, 0, none⟩) (j + 1) cap2)).setCell ⟨P, 1, none⟩ (.int .u64 ((L : Int) / 256))).setCell ⟨P, 2, none⟩ (.int .i64 ((r : Int) - 8)))) ⟨P, 2, none⟩ = r - 8 := by
            have h := (((hB2.set_ 0 (.slice (some ⟨g2, 0, none⟩) (j + 1) cap2)).set_ 1 (.int .u64 ((L : Int) / 256))).set_ 2 (.int .i64 ((r : Int) - 8))).cell 2
            refine cellNat_of (h.trans ?_)
            have e : (((r - 8 : Nat) : Int)) = (r : Int) - 8 := by omega
            rw [e]
            rfl
          rw [hM, hM2]
          omega
    · go_wp2_with fail
      (try simp only [Exit.inBlock, Exit.then]); refine bodyPost_end (results_none rfl _ _ _) rfl ?_
      have hj2 : j = (c + K) / 8 := by have := Hr.out; omega
      refine ⟨rfl, v1, ⟨?_, by rw [← HK.out, ← hj2]; exact hO, HV'.out⟩, hC, hF⟩
      have e2 : (c + K) % 8 = r := by have := Hr.out; omega
      rw [← HK.out, e2, ← hj2, HL.out]
      exact hB
end Go.Proofs.Ytjnglahjngiofaa
namespace Go.Proofs.Ytjnglahjngiofaa
open Go.RowKit
set_option maxRecDepth 100000

theorem clamp_run (N : Int) (k : Nat) (hN : Clamp N k) : ∃ M : Int, (∀ W, Sem.run Try.prog (Builtin.min_ #[3, 3] 3 #[.int .i64 N, .int .i64 32]) W = .ok (.int .i64 M) W) ∧ ∀ W, Sem.run Try.prog (Builtin.max_ #[3, 3] 3 #[.int .i64 0, .int .i64 M]) W = .ok (.int .i64 (k : Int)) W := by
  refine ⟨if (32 : Int) < N then 32 else N, fun W => rfl, fun W => ?_⟩
  have e : (if (if (32 : Int) < N then 32 else N) > 0 then (if (32 : Int) < N then 32 else N) else 0) = (k : Int) := by
    unfold Clamp at hN
    split <;> split <;> omega
  show Result.ok (Value.int .i64 (if (if (32 : Int) < N then 32 else N) > 0 then (if (32 : Int) < N then 32 else N) else 0)) W = _
  rw [e]

theorem sinkTurn_any (P : Nat) (v : Value) (V c x k : Nat) (N : Int) (hx : x < 4294967296) (hN : Clamp N k) (hc : c ≤ 1000000000) (w : World) (hS : SinkAt w P v V c) :
    Calls Try.prog 41 #[.pointer (some ⟨P, 0, none⟩), .int .u32 (x : Int), .int .i64 N] w fun e w' =>
      e = .returned (.tuple #[]) ∧ ∃ v', SinkAt w' P v' (V + rev x k % 2 ^ k * 2 ^ c) (c + k) ∧ Chg w w' P v ∧ Fresh w v v' := by
  have hk : k ≤ 32 := by unfold Clamp at hN; omega
  obtain ⟨M1, hmin, hmax⟩ := clamp_run N k hN
  have CT := Lib.hid (fun W => turn_any x k hx hk W)
  obtain ⟨y, Hy⟩ : ∃ y, Hid (rev x k = y) := ⟨_, Lib.hid (Eq.refl _)⟩
  have hyl : y < 4294967296 := by rw [← Hy.out]; exact Nat.lt_of_lt_of_le (rev_lt x k) (Nat.le_trans (Nat.pow_le_pow_right (by decide) hk) (by decide))
  have CP := Lib.hid (fun W hS => sinkPut_any P v V c y k N hyl hN hc W hS)
  have HS := Lib.hid hS
  rw [Hy.out] at CT ⊢
  clear hS hN
  go_enter Try.func41, Try.ntmps41
  go_wp2_with fail
  refine (CT.out _).mono ?_
  rintro e w1 ⟨rfl, rfl⟩
  go_wp2_with fail
  refine (CP.out _ HS.out).mono ?_
  rintro e w2 ⟨rfl, v', h1, h2, h3⟩
  go_wp2_with fail
  (try simp only [Exit.inBlock, Exit.then]); refine bodyPost_end (results_none rfl _ _ _) rfl ?_
  exact ⟨rfl, v', h1, h2, h3⟩

theorem mk_cat (l m : List UInt8) : (⟨l.toArray⟩ : ByteArray) ++ ⟨m.toArray⟩ = ⟨(l ++ m).toArray⟩ := by
  have h : ((⟨l.toArray⟩ : ByteArray) ++ ⟨m.toArray⟩).data = (⟨(l ++ m).toArray⟩ : ByteArray).data := by rw [ByteArray.data_append]; simp
  cases h2 : ((⟨l.toArray⟩ : ByteArray) ++ ⟨m.toArray⟩) with
  | mk d => rw [h2] at h; simp at h; subst h; rfl
/-- The text of all bits. -/
theorem sinkAll_any (P : Nat) (v : Value) (V c : Nat) (hc : c ≤ 1000000000) (w : World) (hS : SinkAt w P v V c) :
    Calls Try.prog 42 #[.pointer (some ⟨P, 0, none⟩)] w fun e w' => e = .returned (.string ⟨(bytesN V ((c + 7) / 8)).toArray⟩) ∧ Below w.heap.size w w' := by
  obtain ⟨hB, hO, hV⟩ := hS
  have c0 := hB.cell 0
  have c1 := hB.cell 1
  have c2 := hB.cell 2
  have hcv := run_string_own _ _ _ _ hO
  have hlen := bytesN_length V (c / 8)
  by_cases hm : c % 8 = 0
  · have e : bytesN V ((c + 7) / 8) = bytesN V (c / 8) := by rw [show (c + 7) / 8 = c / 8 by omega]
    rw [e]
    rw [hm] at c2
    simp at c0 c1 c2
    obtain ⟨L, HL⟩ : ∃ L, Hid (bytesN V (c / 8) = L) := ⟨_, Lib.hid (Eq.refl _)⟩
    rw [HL.out] at hcv ⊢
    clear hB hO hV hm e
    go_enter Try.func42, Try.ntmps42
    go_wp2_with fail
    go_ret
    exact ⟨rfl, Below.refl _ _⟩
  · have e : bytesN V ((c + 7) / 8) = bytesN V (c / 8) ++ [UInt8.ofNat (V / 256 ^ (c / 8) % 256)] := by rw [show (c + 7) / 8 = c / 8 + 1 by omega, bytesN_succ]
    rw [e, ← mk_cat]
    obtain ⟨m, Hm⟩ : ∃ m, Hid (c % 8 = m) := ⟨_, Lib.hid (Eq.refl _)⟩
    rw [Hm.out] at c2 hm
    obtain ⟨l, Hl⟩ : ∃ l, Hid (V / 2 ^ (8 * (c / 8)) = l) := ⟨_, Lib.hid (Eq.refl _)⟩
    have hp : V / 256 ^ (c / 8) = l := by rw [pow256]; exact Hl.out
    rw [Hl.out] at c1
    rw [hp]
    have hll : l < 256 := by
      rw [← Hl.out, Nat.div_lt_iff_lt_mul (pow_pos2 _), show (256 : Nat) = 2 ^ 8 by decide, ← Nat.pow_add]
      exact Nat.lt_of_lt_of_le hV (Nat.pow_le_pow_right (by decide) (by omega))
    have hl2 : l % 256 = l := by omega
    rw [hl2]
    simp at c0 c1 c2
    have hs1 := run_string_one w (l : Int)
    rw [Int.toNat_natCast] at hs1
    have hbb := (Below.refl w.heap.size w).alloc (Nat.le_refl _) (.cells #[.int .u8 (l : Int)] 5)
    have hm0 : 0 < m := by omega
    have hlw : IntKind.u8.wrap (l : Int) = (l : Int) := by rw [IntKind.wrap_u8]; omega
    have hsz : (⟨(bytesN V (c / 8)).toArray⟩ : ByteArray).size = c / 8 := by show (bytesN V (c / 8)).toArray.size = _; simp [hlen]
    have hov : ¬ 9223372036854775807 < c / 8 + 1 := by omega
    obtain ⟨L, HL⟩ : ∃ L : ByteArray, Hid ((⟨(bytesN V (c / 8)).toArray⟩ : ByteArray) = L) := ⟨_, Lib.hid (Eq.refl _)⟩
    rw [HL.out] at hcv hsz ⊢
    have Hbb := Lib.hid hbb
    have hov2 : ¬ 9223372036854775807 < L.size + 1 := by omega
    clear hB hO hV hm e hp hl2 hbb
    go_enter Try.func42, Try.ntmps42
    go_wp2_with fail
    go_ret
    exact ⟨rfl, Hbb.out⟩
end Go.Proofs.Ytjnglahjngiofaa
namespace Go.Proofs.Ytjnglahjngiofaa
open Go.RowKit
set_option maxRecDepth 100000

/-- The source at block P, of the text s, from bit p on. -/
def SrcAt (w : World) (P : Nat) (s : ByteArray) (p : Nat) : Prop := Blk w P 131 #[.string s, .int .i64 (p : Int)]
/-- The text's number. -/
def num (s : ByteArray) : Nat := leN s.data.toList
/-- k bits from bit p on. -/
def bitsAt (s : ByteArray) (p k : Nat) : Nat := num s / 2 ^ p % 2 ^ k
theorem num_byte (s : ByteArray) (i : Nat) (h : i < s.size) : num s / 256 ^ i % 256 = (s[i]).toNat := by
  unfold num
  rw [leN_byte _ i (by simpa using h)]
  rfl
theorem num_out (s : ByteArray) (i : Nat) (h : ¬ i < s.size) : num s / 256 ^ i % 256 = 0 := leN_out s.data.toList i (by simpa using h)
theorem acc_succ (X q i : Nat) : X / 256 ^ q % 256 ^ (i + 1) = X / 256 ^ q % 256 ^ i + X / 256 ^ (q + i) % 256 * 256 ^ i := by
  rw [Nat.pow_succ, Nat.mod_mul, Nat.div_div_eq_div_mul, ← Nat.pow_add, Nat.mul_comm (256 ^ i)]
theorem mask64 (z k : Nat) (hz : z < 18446744073709551616) (hk : k ≤ 32) : bits .and .u64 (z : Int) ((2 : Int) ^ k - 1) = ((z % 2 ^ k : Nat) : Int) := by
  have hp := pow_pos2 k
  have h6 : 2 ^ k ≤ 2 ^ 32 := Nat.pow_le_pow_right (by decide) hk
  have h7 : (2 : Nat) ^ 32 = 4294967296 := by decide
  have e : (2 : Int) ^ k - 1 = ((2 ^ k - 1 : Nat) : Int) := by
    have : (2 : Int) ^ k = ((2 ^ k : Nat) : Int) := by simp
    omega
  rw [e, u64_and_nat _ _ (by omega) (by omega), and_mask]
theorem take_num (X p k : Nat) (hk : k ≤ 32) : (X / 256 ^ (p / 8) % 256 ^ 5) / 2 ^ (p % 8) % 2 ^ k = X / 2 ^ p % 2 ^ k := by
  have e : X / 2 ^ p = X / 256 ^ (p / 8) / 2 ^ (p % 8) := by
    rw [Nat.div_div_eq_div_mul, pow256, ← Nat.pow_add]
    congr 2
    omega
  rw [e]
  generalize X / 256 ^ (p / 8) = Y
  have h5 : (256 : Nat) ^ 5 = 2 ^ (p % 8) * 2 ^ (40 - p % 8) := by rw [← Nat.pow_add, show p % 8 + (40 - p % 8) = 40 by omega]
  rw [h5, Nat.mod_mul_right_div_self]
  have h6 : (2 : Nat) ^ (40 - p % 8) = 2 ^ k * 2 ^ (40 - p % 8 - k) := by rw [← Nat.pow_add]; congr 1; omega
  rw [h6, Nat.mod_mul_right_mod]

set_option maxHeartbeats 4000000 in
theorem srcTake_any (P : Nat) (s : ByteArray) (p k : Nat) (N : Int) (hN : Clamp N k) (hs : s.size ≤ 100000000) (hp : p ≤ 1000000000) (w : World) (hS : SrcAt w P s p) :
    Calls Try.prog 68 #[.pointer (some ⟨P, 0, none⟩), .int .i64 N] w fun e w' => e = .returned (.int .u32 (bitsAt s p k : Int)) ∧ SrcAt w' P s (p + k) ∧ w.grownBy w' (some P) ∧ w'.heap.size = w.heap.size := by
  have hk : k ≤ 32 := by unfold Clamp at hN; omega
  obtain ⟨M1, hmin, hmax⟩ := clamp_run N k hN
  have c0 := hS.cell 0
  have c1 := hS.cell 1
  have cf := hS.frozen 1
  simp at c0 c1
  have HS := Lib.hid hS
  obtain ⟨q, Hq⟩ : ∃ q, Hid (p / 8 = q) := ⟨_, Lib.hid (Eq.refl _)⟩
  obtain ⟨m, Hm⟩ : ∃ q, Hid (p % 8 = q) := ⟨_, Lib.hid (Eq.refl _)⟩
  have hm8 : m < 8 := by have := Hm.out; omega
  have e1 : (p : Int) / 8 = (q : Int) := by have := Hq.out; omega
  have e2 : (p : Int).tdiv 8 = (q : Int) := by rw [Int.tdiv_eq_ediv_of_nonneg (by omega)]; exact e1
  have e3 : (p : Int) % 8 = (m : Int) := by have := Hm.out; omega
  have e4 : (p : Int).tmod 8 = (m : Int) := by rw [Int.tmod_eq_emod_of_nonneg (by omega)]; exact e3
  have hq : q ≤ 1000000000 := by have := Hq.out; omega
  obtain ⟨R, HR⟩ : ∃ R, Hid (bitsAt s p k = R) := ⟨_, Lib.hid (Eq.refl _)⟩
  have HR2 : Hid ((num s / 256 ^ q % 256 ^ 5) / 2 ^ m % 2 ^ k = R) := by show _ = _; rw [← Hq.out, ← Hm.out, take_num _ _ _ hk]; exact HR.out
  rw [HR.out]
  clear hS hN
  go_enter Try.func68, Try.ntmps68
  go_wp2_with fail
  clear hmin hmax
  go_loop [5, 11] (fun u i => ∃ j A : Nat, j ≤ 5 ∧ i = .int .i64 (j : Int) ∧ u = .int .u64 (A : Int) ∧ A < 256 ^ j ∧ Hid (A = num s / 256 ^ q % 256 ^ j)) (fun _ i => 5 - (intOf i).toNat)
  case atStart => exact ⟨0, 0, by omega, rfl, rfl, by decide, by show _ = _; simp [Nat.mod_one]⟩
  case round =>
    obtain ⟨j, A, hj, rfl, rfl, hA, HA⟩ := hrel
    by_cases hlt : j < 5
    · have h40 : (256 : Nat) ^ (j + 1) ≤ 256 ^ 5 := Nat.pow_le_pow_right (by decide) (by omega)
      have h41 : (256 : Nat) ^ 5 = 1099511627776 := by decide
      have Hacc := Lib.hid (acc_succ (num s) q j)
      have Hlt2 : Hid (num s / 256 ^ q % 256 ^ (j + 1) < 256 ^ (j + 1)) := Nat.mod_lt _ (Nat.pow_pos (by decide))
      by_cases hin : q + j < s.size
      · obtain ⟨c, Hc⟩ : ∃ c, Hid ((s[q + j]).toNat = c) := ⟨_, Lib.hid (Eq.refl _)⟩
        have hcl : c < 256 := by rw [← Hc.out]; exact UInt8.toNat_lt _
        have Hn := Lib.hid ((num_byte s (q + j) hin).trans Hc.out)
        obtain ⟨t, Ht⟩ : ∃ t, Hid (8 * j = t) := ⟨_, Lib.hid (Eq.refl _)⟩
        have ht1 : 8 * (j : Int) = (t : Int) := by have := Ht.out; omega
        have htl : t ≤ 32 := by have := Ht.out; omega
        have hpt : (256 : Nat) ^ j = 2 ^ t := by rw [pow256, Ht.out]
        obtain ⟨E, HE⟩ : ∃ E, Hid (c * 2 ^ t = E) := ⟨_, Lib.hid (Eq.refl _)⟩
        have hEl : A + E < 1099511627776 := by
          have h1 := Hlt2.out
          rw [Hacc.out, ← HA.out, Hn.out, hpt, HE.out] at h1
          omega
        have hw1 : IntKind.u64.wrap ((c : Int) * 2 ^ t) = (E : Int) := by
          have e : (c : Int) * 2 ^ t = ((c * 2 ^ t : Nat) : Int) := by simp
          rw [e, HE.out, IntKind.wrap_u64]; omega
        have hor : bits .or .u64 (A : Int) (E : Int) = ((A + E : Nat) : Int) := by
          rw [u64_or_nat _ _ (by omega) (by omega), ← HE.out, or_add _ _ _ (by rw [← hpt]; exact hA)]
        have HA2 : Hid (A + E = num s / 256 ^ q % 256 ^ (j + 1)) := by show _ = _; rw [Hacc.out, ← HA.out, Hn.out, hpt, HE.out]
        have hin2 : (q : Int) + (j : Int) < (s.size : Int) := by omega
        have hix : ∀ W, (Instr.index 9 (.string s) (.int .i64 ((q : Int) + (j : Int)))).run Try.prog W = .ok (.int .u8 (c : Int)) W := fun W => by
          have e : ((q : Int) + (j : Int)).toNat = q + j := by omega
          rw [run_index_string W 9 s .i64 ((q : Int) + (j : Int)) Try.underlying9, dif_pos ⟨by omega, by omega⟩]
          simp only [e, Hc.out]
        have hA3 : A + E < 256 ^ (j + 1) := by rw [HA2.out]; exact Hlt2.out
        clear hpt hA
        go_wp2_with fail
        go_round
        case rel => exact ⟨j + 1, A + E, by omega, by go_num, by go_num, hA3, HA2⟩
        case measure => simp [intOf]; omega
      · have Hn := Lib.hid (num_out s (q + j) hin)
        have HA2 : Hid (A = num s / 256 ^ q % 256 ^ (j + 1)) := by show _ = _; rw [Hacc.out, ← HA.out, Hn.out]; simp
        have hin2 : ¬ (q : Int) + (j : Int) < (s.size : Int) := by omega
        have hA3 : A < 256 ^ (j + 1) := by rw [HA2.out]; exact Hlt2.out
        go_wp2_with fail
        go_round
        case rel => exact ⟨j + 1, A, by omega, by go_num, rfl, hA3, HA2⟩
        case measure => simp [intOf]; omega
    · obtain rfl : j = 5 := by omega
      have h41 : (256 : Nat) ^ 5 = 1099511627776 := by decide
      rw [h41] at hA
      have hsh : (A : Int) / 2 ^ m = ((A / 2 ^ m : Nat) : Int) := by simp
      have hZl : A / 2 ^ m < 18446744073709551616 := Nat.lt_of_le_of_lt (Nat.div_le_self _ _) (by omega)
      obtain ⟨Z, HZ⟩ : ∃ Z, Hid (A / 2 ^ m = Z) := ⟨_, Lib.hid (Eq.refl _)⟩
      have hmk := mask64 Z k (by rw [← HZ.out]; exact hZl) hk
      have hZR : Z % 2 ^ k = R := by rw [← HZ.out, HA.out]; exact HR2.out
      rw [hZR] at hmk
      rw [HZ.out] at hsh
      have hwk := wrap_pow k hk
      have hRl : R < 4294967296 := by
        rw [← hZR]
        exact Nat.lt_of_lt_of_le (Nat.mod_lt _ (Nat.pow_pos (by decide))) (Nat.le_trans (Nat.pow_le_pow_right (by decide) hk) (by decide))
      have hwr : IntKind.u32.wrap (R : Int) = (R : Int) := by rw [IntKind.wrap_u32]; omega
      have HGs : Hid (∀ n, w.grownBy ((w.drewN n).setCell ⟨P, 1, none⟩ (.int .i64 ((p : Int) + (k : Int)))) (some P)) := fun n =>
        ⟨rfl, rfl, rfl, by simp [World.setCell, World.drewN], fun g hg hne => (heap_setCell_other (w.drewN n) _ _ _ (fun e => hne (by rw [e])))⟩
      have HS2 : Hid (∀ n, SrcAt ((w.drewN n).setCell ⟨P, 1, none⟩ (.int .i64 ((p : Int) + (k : Int)))) P s (p + k)) := by
        intro n
        have HSs := (HS.out.drewN n).set_ 1 (.int .i64 ((p : Int) + (k : Int)))
        show Blk _ _ _ _
        have e : ((p + k : Nat) : Int) = (p : Int) + (k : Int) := by omega
        rw [e]
        simpa using HSs
      have HZs : Hid (∀ n, ((w.drewN n).setCell ⟨P, 1, none⟩ (.int .i64 ((p : Int) + (k : Int)))).heap.size = w.heap.size) := fun n => by simp [World.setCell, World.drewN]
      clear hZR hZl hA h41
      go_wp2_with fail
      go_quiet (fail)
      all_goals
        go_wp2_with fail
        go_ret
        exact ⟨rfl, HS2.out _, HGs.out _, HZs.out _⟩
end Go.Proofs.Ytjnglahjngiofaa
namespace Go.Proofs.Ytjnglahjngiofaa
open Go.RowKit
set_option maxRecDepth 100000

theorem srcOf_any (s : ByteArray) (w : World) : Calls Try.prog 46 #[.string s] w fun e w' => e = .returned (.pointer (some ⟨w.heap.size, 0, none⟩)) ∧ SrcAt w' w.heap.size s 0 ∧ Below w.heap.size w w' := by
  have hB := Blk.new w 131 #[.string s, .int .i64 0]
  have hb := (Below.refl w.heap.size w).alloc (Nat.le_refl _) (.cells #[.string s, .int .i64 0] 131)
  have HB := Lib.hid hB
  have Hb := Lib.hid hb
  clear hB hb
  go_enter Try.func46, Try.ntmps46
  go_wp2_with fail
  go_ret
  exact ⟨rfl, HB.out, Hb.out⟩
theorem srcPlace_any (P : Nat) (s : ByteArray) (p : Nat) (w : World) (hS : SrcAt w P s p) :
    Calls Try.prog 52 #[.pointer (some ⟨P, 0, none⟩)] w fun e w' => e = .returned (.int .i64 (p : Int)) ∧ w = w' := by
  have c1 := hS.cell 1
  simp at c1
  clear hS
  go_enter Try.func52, Try.ntmps52
  go_wp2_with fail
  go_ret
  exact ⟨rfl, rfl⟩
theorem srcShort_any (P : Nat) (s : ByteArray) (p : Nat) (hs : s.size ≤ 100000000) (w : World) (hS : SrcAt w P s p) :
    Calls Try.prog 69 #[.pointer (some ⟨P, 0, none⟩)] w fun e w' => e = .returned (.bool (decide (8 * s.size < p))) ∧ ∃ n, w' = w.drewN n := by
  have c0 := hS.cell 0
  have c1 := hS.cell 1
  simp at c0 c1
  obtain ⟨b, Hb⟩ : ∃ b, Hid (decide (8 * s.size < p) = b) := ⟨_, Lib.hid (Eq.refl _)⟩
  have hd : decide (8 * (s.size : Int) < (p : Int)) = b := by
    rw [← Hb.out]
    by_cases h : 8 * s.size < p
    · rw [decide_eq_true h, decide_eq_true (by omega)]
    · rw [decide_eq_false h, decide_eq_false (by omega)]
  rw [Hb.out]
  clear hS
  go_enter Try.func69, Try.ntmps69
  go_wp2_with fail
  go_quiet (fail)
  all_goals
    go_wp2_with fail
    go_ret
    first
      | exact ⟨rfl, _, rfl⟩
      | exact ⟨by rw [← hd]; rfl, _, rfl⟩
theorem src_set {w : World} {P p p' : Nat} {s : ByteArray} (h : SrcAt w P s p) : SrcAt (w.setCell ⟨P, 1, none⟩ (.int .i64 (p' : Int))) P s p' ∧ w.grownBy (w.setCell ⟨P, 1, none⟩ (.int .i64 (p' : Int))) (some P) ∧ (w.setCell ⟨P, 1, none⟩ (.int .i64 (p' : Int))).heap.size = w.heap.size := by
  refine ⟨?_, ⟨rfl, rfl, rfl, by simp [World.setCell], fun g hg hne => (heap_setCell_other w _ _ _ (fun e => hne (by rw [e])))⟩, by simp [World.setCell]⟩
  have := Blk.set_ h 1 (.int .i64 (p' : Int))
  show Blk _ _ _ _
  simpa using this
end Go.Proofs.Ytjnglahjngiofaa
namespace Go.Proofs.Ytjnglahjngiofaa
open Go.RowKit
set_option maxRecDepth 100000

theorem srcEven_any (P : Nat) (s : ByteArray) (p : Nat) (hp : p ≤ 1000000000) (w : World) (hS : SrcAt w P s p) :
    Calls Try.prog 70 #[.pointer (some ⟨P, 0, none⟩)] w fun e w' => e = .returned (.tuple #[]) ∧ SrcAt w' P s ((p + 7) / 8 * 8) ∧ w.grownBy w' (some P) ∧ w'.heap.size = w.heap.size := by
  have c1 := hS.cell 1
  have cf := hS.frozen 1
  simp at c1
  obtain ⟨q, Hq⟩ : ∃ q, Hid ((p + 7) / 8 = q) := ⟨_, Lib.hid (Eq.refl _)⟩
  have e1 : ((p : Int) + 7) / 8 = (q : Int) := by have := Hq.out; omega
  have e2 : ((p : Int) + 7).tdiv 8 = (q : Int) := by rw [Int.tdiv_eq_ediv_of_nonneg (by omega)]; exact e1
  have hql : q ≤ 1000000000 := by have := Hq.out; omega
  have H := Lib.hid (src_set (p' := q * 8) hS)
  have e3 : ((q * 8 : Nat) : Int) = (q : Int) * 8 := by omega
  rw [Hq.out]
  simp only [e3] at H
  clear hS
  go_enter Try.func70, Try.ntmps70
  go_wp2_with fail
  (try simp only [Exit.inBlock, Exit.then]); refine bodyPost_end (results_none rfl _ _ _) rfl ?_
  exact ⟨rfl, H.out⟩
/-- The nearest of 0 to B. -/
def ClampB (B N : Int) (k : Nat) : Prop := (N < 0 ∧ k = 0) ∨ (N = (k : Int) ∧ N ≤ B) ∨ (B < N ∧ (k : Int) = B)
theorem clampB_run (B N : Int) (k : Nat) (hB : 0 ≤ B) (hN : ClampB B N k) : ∃ M : Int, (∀ W, Sem.run Try.prog (Builtin.min_ #[3, 3] 3 #[.int .i64 N, .int .i64 B]) W = .ok (.int .i64 M) W) ∧ ∀ W, Sem.run Try.prog (Builtin.max_ #[3, 3] 3 #[.int .i64 0, .int .i64 M]) W = .ok (.int .i64 (k : Int)) W := by
  refine ⟨if B < N then B else N, fun W => rfl, fun W => ?_⟩
  have e : (if (if B < N then B else N) > 0 then (if B < N then B else N) else 0) = (k : Int) := by
    unfold ClampB at hN
    split <;> split <;> omega
  show Result.ok (Value.int .i64 (if (if B < N then B else N) > 0 then (if B < N then B else N) else 0)) W = _
  rw [e]
theorem min_run (a b : Nat) (W : World) : Sem.run Try.prog (Builtin.min_ #[3, 3] 3 #[.int .i64 (a : Int), .int .i64 (b : Int)]) W = .ok (.int .i64 ((min a b : Nat) : Int)) W := by
  have e : (if (b : Int) < (a : Int) then (b : Int) else (a : Int)) = ((min a b : Nat) : Int) := by split <;> omega
  show Result.ok (Value.int .i64 (if (b : Int) < (a : Int) then (b : Int) else (a : Int))) W = _
  rw [e]
set_option maxHeartbeats 2000000 in
theorem srcText_any (P : Nat) (s : ByteArray) (p k : Nat) (N : Int) (hN : ClampB 65536 N k) (hs : s.size ≤ 100000000) (hp : p ≤ 1000000000) (w : World) (hS : SrcAt w P s p) :
    Calls Try.prog 71 #[.pointer (some ⟨P, 0, none⟩), .int .i64 N] w fun e w' => e = .returned (.string (s.extract (min ((p + 7) / 8) s.size) (min (min ((p + 7) / 8) s.size + k) s.size))) ∧
      SrcAt w' P s ((p + 7) / 8 * 8 + 8 * k) ∧ w.grownBy w' (some P) ∧ w'.heap.size = w.heap.size := by
  have hk : k ≤ 65536 := by unfold ClampB at hN; omega
  obtain ⟨M1, hmin, hmax⟩ := clampB_run 65536 N k (by omega) hN
  have CE := Lib.hid (srcEven_any P s p hp w hS)
  obtain ⟨q, Hq⟩ : ∃ q, Hid ((p + 7) / 8 = q) := ⟨_, Lib.hid (Eq.refl _)⟩
  have hql : q ≤ 1000000000 := by have := Hq.out; omega
  rw [Hq.out] at CE ⊢
  obtain ⟨f, Hf⟩ : ∃ f, Hid (min q s.size = f) := ⟨_, Lib.hid (Eq.refl _)⟩
  obtain ⟨t, Ht⟩ : ∃ t, Hid (min (f + k) s.size = t) := ⟨_, Lib.hid (Eq.refl _)⟩
  rw [Hf.out, Ht.out]
  have hfl : f ≤ s.size := by have := Hf.out; omega
  have hft : f ≤ t := by have := Ht.out; omega
  have htl : t ≤ s.size := by have := Ht.out; omega
  have hm1 := min_run q s.size
  have hm2 := min_run (f + k) s.size
  rw [Hf.out] at hm1
  rw [Ht.out] at hm2
  have e3 : ((f + k : Nat) : Int) = (f : Int) + (k : Int) := by omega
  rw [e3] at hm2
  have e1 : ((q : Int) * 8) / 8 = (q : Int) := by omega
  have e2 : ((q : Int) * 8).tdiv 8 = (q : Int) := by rw [Int.tdiv_eq_ediv_of_nonneg (by omega)]; exact e1
  clear hS hN
  go_enter Try.func71, Try.ntmps71
  go_wp2_with fail
  refine CE.out.mono ?_
  rintro e w1 ⟨rfl, hS1, hg1, hz1⟩
  have c0 := hS1.cell 0
  have c1 := hS1.cell 1
  have cf := hS1.frozen 1
  simp at c0 c1
  have e4 : ((q * 8 : Nat) : Int) = (q : Int) * 8 := by omega
  (try rw [e4] at c1)
  have HS1 := Lib.hid hS1
  clear hS1
  go_wp2_with fail
  go_quiet (fail)
  go_wp2_with fail
  have H5 := src_set (p' := q * 8 + 8 * k) (show SrcAt (w1.drewN nq) P s (q * 8) from HS1.out)
  have e5 : ((q * 8 + 8 * k : Nat) : Int) = (q : Int) * 8 + 8 * (k : Int) := by omega
  rw [e5] at H5
  have d0 := H5.1.cell 0
  simp at d0
  have H5h := Lib.hid H5
  have Hg1 := Lib.hid hg1
  have Hz1 := Lib.hid hz1
  have hsz : ((w1.drewN nq).setCell ⟨P, 1, none⟩ (.int .i64 ((q : Int) * 8 + 8 * (k : Int)))).heap.size = w.heap.size := H5.2.2.trans hz1
  have hgr : w.grownBy ((w1.drewN nq).setCell ⟨P, 1, none⟩ (.int .i64 ((q : Int) * 8 + 8 * (k : Int)))) (some P) :=
    grownBy_trans hg1 ⟨H5.2.1.os, H5.2.1.tape, H5.2.1.output, H5.2.1.size, H5.2.1.block⟩
  have Hsz := Lib.hid hsz
  have Hgr := Lib.hid hgr
  have HS5 := Lib.hid H5.1
  clear H5 H5h hsz hgr hg1 hz1 Hg1 Hz1 c0 c1 cf HS1 hmin hmax hm1
  generalize (w1.drewN nq).setCell ⟨P, 1, none⟩ (.int .i64 ((q : Int) * 8 + 8 * (k : Int))) = w5 at *
  go_quiet (fail)
  go_wp2_with fail
  go_ret
  exact ⟨rfl, HS5.out, ⟨Hgr.out.os, Hgr.out.tape, Hgr.out.output, Hgr.out.size, Hgr.out.block⟩, Hsz.out⟩
end Go.Proofs.Ytjnglahjngiofaa
namespace Go.Proofs.Ytjnglahjngiofaa

/-- Code s, of ln s bits, begins with the n bits x. -/
def Ext (cd ln : Nat → Nat) (x n s : Nat) : Prop := n ≤ ln s ∧ cd s / 2 ^ (ln s - n) = x
/-- A branch says what the codes of In say. -/
def CellOK (cd ln : Nat → Nat) (In : Nat → Prop) (B : Nat → Nat → Int) (N : Nat) (pv pn : Nat → Nat) (a b : Nat) : Prop :=
  (B a b = 0 ∧ ∀ s, In s → ¬ Ext cd ln (2 * pv a + b) (pn a + 1) s) ∨
  (∃ j : Nat, B a b = (j : Int) ∧ 0 < j ∧ j < N ∧ pv j = 2 * pv a + b ∧ pn j = pn a + 1 ∧ ∃ s, In s ∧ Ext cd ln (2 * pv a + b) (pn a + 1) s ∧ pn a + 1 < ln s) ∨
  (∃ s : Nat, B a b = -1 - (s : Int) ∧ In s ∧ ln s = pn a + 1 ∧ cd s = 2 * pv a + b)
/-- A whole tree. -/
structure Grown (cd ln : Nat → Nat) (In : Nat → Prop) (B : Nat → Nat → Int) (N : Nat) (pv pn : Nat → Nat) : Prop where
  pos : 0 < N
  root : pv 0 = 0 ∧ pn 0 = 0
  cells : ∀ a, a < N → ∀ b, b < 2 → CellOK cd ln In B N pv pn a b
  one : ∀ a a', a < N → a' < N → pv a = pv a' → pn a = pn a' → a = a'
  used : ∀ j, 0 < j → j < N → ∃ s, In s ∧ Ext cd ln (pv j) (pn j) s ∧ pn j < ln s
/-- A tree into which code σ has been led n bits far. -/
structure Mid (cd ln : Nat → Nat) (In : Nat → Prop) (σ : Nat) (B : Nat → Nat → Int) (N : Nat) (pv pn : Nat → Nat) (n at_ : Nat) : Prop where
  pos : 0 < N
  root : pv 0 = 0 ∧ pn 0 = 0
  lt : at_ < N
  here : pv at_ = cd σ / 2 ^ (ln σ - n) ∧ pn at_ = n
  short : n < ln σ
  old : ∀ a, a < N → ∀ b, b < 2 → n ≤ pn a → Ext cd ln (2 * pv a + b) (pn a + 1) σ → CellOK cd ln In B N pv pn a b
  new : ∀ a, a < N → ∀ b, b < 2 → ¬ (n ≤ pn a ∧ Ext cd ln (2 * pv a + b) (pn a + 1) σ) → CellOK cd ln (fun s => In s ∨ s = σ) B N pv pn a b
  one : ∀ a a', a < N → a' < N → pv a = pv a' → pn a = pn a' → a = a'
  used : ∀ j, 0 < j → j < N → ∃ s, (In s ∨ s = σ ∧ pn j ≤ n) ∧ Ext cd ln (pv j) (pn j) s ∧ pn j < ln s

section
variable {cd ln : Nat → Nat} {In : Nat → Prop} {σ : Nat} {B : Nat → Nat → Int} {N : Nat} {pv pn : Nat → Nat}

theorem CellOK.more {a b : Nat} (h : CellOK cd ln In B N pv pn a b) (hn : ¬ Ext cd ln (2 * pv a + b) (pn a + 1) σ) : CellOK cd ln (fun s => In s ∨ s = σ) B N pv pn a b := by
  rcases h with ⟨h1, h2⟩ | ⟨j, h1, h2, h3, h4, h5, s, h6, h7⟩ | ⟨s, h1, h2, h3⟩
  · refine .inl ⟨h1, fun s hs => ?_⟩
    rcases hs with hs | rfl
    · exact h2 s hs
    · exact hn
  · exact .inr (.inl ⟨j, h1, h2, h3, h4, h5, s, .inl h6, h7⟩)
  · exact .inr (.inr ⟨s, h1, .inl h2, h3⟩)
/-- The next bit of a code. -/
def nb (cd ln : Nat → Nat) (σ n : Nat) : Nat := cd σ / 2 ^ (ln σ - n - 1) % 2
theorem nb_lt (cd ln : Nat → Nat) (σ n : Nat) : nb cd ln σ n < 2 := Nat.mod_lt _ (by decide)
theorem pre_next (n : Nat) (h : n < ln σ) : cd σ / 2 ^ (ln σ - (n + 1)) = 2 * (cd σ / 2 ^ (ln σ - n)) + nb cd ln σ n := by
  have e : cd σ / 2 ^ (ln σ - n) = cd σ / 2 ^ (ln σ - (n + 1)) / 2 := by
    rw [Nat.div_div_eq_div_mul, ← Nat.pow_succ]
    congr 2
    omega
  rw [e]
  unfold nb
  rw [show ln σ - n - 1 = ln σ - (n + 1) by omega]
  omega
/-- On code σ's way at depth n or more: just the branch at hand, or deeper ones. -/
theorem Mid.there {n at_ a b : Nat} (h : Mid cd ln In σ B N pv pn n at_) (ha : a < N) (hb : b < 2) (hn : pn a = n) (he : Ext cd ln (2 * pv a + b) (pn a + 1) σ) : a = at_ ∧ b = nb cd ln σ n := by
  have h1 := he.2
  rw [hn, pre_next n h.short] at h1
  have h2 := nb_lt cd ln σ n
  have h3 : pv a = pv at_ := by rw [h.here.1]; omega
  have h4 := h.one a at_ ha h.lt h3 (by rw [hn, h.here.2])
  subst h4
  exact ⟨rfl, by omega⟩
theorem Mid.ext {n at_ : Nat} (h : Mid cd ln In σ B N pv pn n at_) : Ext cd ln (2 * pv at_ + nb cd ln σ n) (pn at_ + 1) σ := by
  refine ⟨by rw [h.here.2]; exact h.short, ?_⟩
  rw [h.here.2, pre_next n h.short, h.here.1]
theorem Mid.cell {n at_ : Nat} (h : Mid cd ln In σ B N pv pn n at_) : CellOK cd ln In B N pv pn at_ (nb cd ln σ n) :=
  h.old at_ h.lt _ (nb_lt _ _ _ _) (by rw [h.here.2]; exact Nat.le_refl _) h.ext

theorem Grown.start (h : Grown cd ln In B N pv pn) (h0 : 0 < ln σ) (hc : cd σ < 2 ^ ln σ) : Mid cd ln In σ B N pv pn 0 0 := by
  refine ⟨h.pos, h.root, h.pos, ⟨?_, h.root.2⟩, h0, fun a ha b hb _ _ => h.cells a ha b hb, fun a ha b hb hn => (h.cells a ha b hb).more (fun e => hn ⟨Nat.zero_le _, e⟩), h.one, fun j h1 h2 => ?_⟩
  · rw [h.root.1, Nat.sub_zero, Nat.div_eq_of_lt hc]
  · obtain ⟨s, h3, h4⟩ := h.used j h1 h2
    exact ⟨s, .inl h3, h4⟩
theorem ext_less {x n s m : Nat} (h : Ext cd ln x n s) (hm : m ≤ n) : Ext cd ln (x / 2 ^ (n - m)) m s := by
  refine ⟨Nat.le_trans hm h.1, ?_⟩
  rw [← h.2, Nat.div_div_eq_div_mul, ← Nat.pow_add]
  congr 2
  have := h.1
  omega
/-- A branch on the way that is none says so, or leads on. -/
theorem Mid.way {n at_ : Nat} (h : Mid cd ln In σ B N pv pn n at_) (hpf : ∀ s, In s → ¬ Ext cd ln (cd s) (ln s) σ) :
    B at_ (nb cd ln σ n) = 0 ∨ ∃ j : Nat, B at_ (nb cd ln σ n) = (j : Int) ∧ 0 < j ∧ j < N ∧ pv j = cd σ / 2 ^ (ln σ - (n + 1)) ∧ pn j = n + 1 ∧ ∃ s, In s ∧ Ext cd ln (cd σ / 2 ^ (ln σ - (n + 1))) (n + 1) s ∧ n + 1 < ln s := by
  have e := pre_next (cd := cd) n h.short
  have hp := h.here
  rcases h.cell with ⟨h1, _⟩ | ⟨j, h1, h2, h3, h4, h5, s, h6, h7, h8⟩ | ⟨s, h1, h2, h3, h4⟩
  · exact .inl h1
  · rw [hp.1, hp.2, ← e] at h7
    rw [hp.2] at h8 h5
    rw [hp.1, ← e] at h4
    exact .inr ⟨j, h1, h2, h3, h4, h5, s, h6, h7, h8⟩
  · refine absurd ?_ (hpf s h2)
    have := h.ext
    rw [← h3, ← h4] at this
    exact this
/-- Leading on. -/
theorem Mid.down {n at_ j : Nat} (h : Mid cd ln In σ B N pv pn n at_) (hs : n + 1 < ln σ) (hB : B at_ (nb cd ln σ n) = (j : Int)) (h0 : 0 < j) (hj : j < N) (hpv : pv j = cd σ / 2 ^ (ln σ - (n + 1))) (hpn : pn j = n + 1) (hex : ∃ s, In s ∧ Ext cd ln (cd σ / 2 ^ (ln σ - (n + 1))) (n + 1) s ∧ n + 1 < ln s) : Mid cd ln In σ B N pv pn (n + 1) j := by
  have e := pre_next (cd := cd) n h.short
  refine ⟨h.pos, h.root, hj, ⟨hpv, hpn⟩, hs, fun a ha b hb hn he => h.old a ha b hb (by omega) he, fun a ha b hb hn => ?_, h.one, fun i h1 h2 => ?_⟩
  by_cases h1 : n ≤ pn a ∧ Ext cd ln (2 * pv a + b) (pn a + 1) σ
  · have h2 : pn a = n := by
      by_cases h3 : n + 1 ≤ pn a
      · exact absurd ⟨h3, h1.2⟩ hn
      · omega
    obtain ⟨rfl, rfl⟩ := h.there ha hb h2 h1.2
    obtain ⟨s, h4, h5, h6⟩ := hex
    refine .inr (.inl ⟨j, hB, h0, hj, ?_, by rw [h2]; exact hpn, s, .inl h4, ?_, by rw [h2]; exact h6⟩)
    · rw [hpv, e, h.here.1]
    · rw [h2, h.here.1, ← e]; exact h5
  · exact h.new a ha b hb h1
  · obtain ⟨s, h3, h4⟩ := h.used i h1 h2
    exact ⟨s, h3.imp id (fun h => ⟨h.1, by omega⟩), h4⟩
/-- A new node. -/
def setB (B : Nat → Nat → Int) (at_ k : Nat) (v : Int) (a b : Nat) : Int := if a = at_ ∧ b = k then v else B a b
def addB (B : Nat → Nat → Int) (N : Nat) (a b : Nat) : Int := if a = N then 0 else B a b
def addP (p : Nat → Nat) (N v : Nat) (a : Nat) : Nat := if a = N then v else p a
theorem CellOK.wider {In' : Nat → Prop} {B' : Nat → Nat → Int} {N' : Nat} {pv' pn' : Nat → Nat} {a b : Nat} (h : CellOK cd ln In' B N pv pn a b) (hB : B' a b = B a b) (hN : N ≤ N') (ha : pv' a = pv a ∧ pn' a = pn a) (hp : ∀ j, j < N → pv' j = pv j ∧ pn' j = pn j) : CellOK cd ln In' B' N' pv' pn' a b := by
  unfold CellOK
  rw [hB, ha.1, ha.2]
  rcases h with h | ⟨j, h1, h2, h3, h4, h5, h6⟩ | h
  · exact .inl h
  · exact .inr (.inl ⟨j, h1, h2, by omega, by rw [(hp j h3).1]; exact h4, by rw [(hp j h3).2]; exact h5, h6⟩)
  · exact .inr (.inr h)
theorem Mid.fresh {n at_ : Nat} (h : Mid cd ln In σ B N pv pn n at_) (hs : n + 1 < ln σ) (hB : B at_ (nb cd ln σ n) = 0) :
    Mid cd ln In σ (addB (setB B at_ (nb cd ln σ n) (N : Int)) N) (N + 1) (addP pv N (cd σ / 2 ^ (ln σ - (n + 1)))) (addP pn N (n + 1)) (n + 1) N := by
  have e := pre_next (cd := cd) n h.short
  have hpos := h.pos
  have pvo : ∀ j, j < N → addP pv N (cd σ / 2 ^ (ln σ - (n + 1))) j = pv j ∧ addP pn N (n + 1) j = pn j := fun j hj => by
    unfold addP; rw [if_neg (by omega), if_neg (by omega)]; exact ⟨rfl, rfl⟩
  have pvn : addP pv N (cd σ / 2 ^ (ln σ - (n + 1))) N = cd σ / 2 ^ (ln σ - (n + 1)) := by unfold addP; rw [if_pos rfl]
  have pnn : addP pn N (n + 1) N = n + 1 := by unfold addP; rw [if_pos rfl]
  have hno : ∀ s, In s → ¬ Ext cd ln (cd σ / 2 ^ (ln σ - (n + 1))) (n + 1) s := by
    rcases h.cell with ⟨_, h2⟩ | ⟨j, h1, h2, _⟩ | ⟨s, h1, _⟩
    · intro s hs2
      have := h2 s hs2
      rw [h.here.1, h.here.2, ← e] at this
      exact this
    · omega
    · omega
  have hσ : Ext cd ln (cd σ / 2 ^ (ln σ - (n + 1))) (n + 1) σ := ⟨by omega, rfl⟩
  refine ⟨by omega, ⟨by rw [(pvo 0 hpos).1]; exact h.root.1, by rw [(pvo 0 hpos).2]; exact h.root.2⟩, by omega, ⟨pvn, pnn⟩, hs, ?_, ?_, ?_, ?_⟩
  · intro a ha b hb hn he
    by_cases hN : a = N
    · subst hN
      refine .inl ⟨by unfold addB; rw [if_pos rfl], fun s hs2 he2 => hno s hs2 ?_⟩
      rw [pvn, pnn] at he2
      have := ext_less he2 (m := n + 1) (by omega)
      rw [show n + 1 + 1 - (n + 1) = 1 by omega, show (2 * (cd σ / 2 ^ (ln σ - (n + 1))) + b) / 2 ^ 1 = cd σ / 2 ^ (ln σ - (n + 1)) by omega] at this
      exact this
    · have haN : a < N := by omega
      rw [(pvo a haN).1, (pvo a haN).2] at he
      rw [(pvo a haN).2] at hn
      refine (h.old a haN b hb (by omega) he).wider ?_ (by omega) (pvo a haN) pvo
      unfold addB setB
      rw [if_neg hN, if_neg]
      rintro ⟨rfl, _⟩
      have := h.here.2
      omega
  · intro a ha b hb hn
    by_cases hN : a = N
    · subst hN
      rw [pvn, pnn] at hn
      refine .inl ⟨by unfold addB; rw [if_pos rfl], fun s hs2 he2 => ?_⟩
      rw [pvn, pnn] at he2
      rcases hs2 with hs2 | rfl
      · refine hno s hs2 ?_
        have := ext_less he2 (m := n + 1) (by omega)
        rw [show n + 1 + 1 - (n + 1) = 1 by omega, show (2 * (cd σ / 2 ^ (ln σ - (n + 1))) + b) / 2 ^ 1 = cd σ / 2 ^ (ln σ - (n + 1)) by omega] at this
        exact this
      · exact hn ⟨Nat.le_refl _, he2⟩
    · have haN : a < N := by omega
      rw [(pvo a haN).1, (pvo a haN).2] at hn
      by_cases hc : a = at_ ∧ b = nb cd ln σ n
      · obtain ⟨rfl, rfl⟩ := hc
        refine .inr (.inl ⟨N, ?_, hpos, by omega, ?_, ?_, σ, .inr rfl, ?_, ?_⟩)
        · unfold addB setB; rw [if_neg hN, if_pos ⟨rfl, rfl⟩]
        · rw [pvn, (pvo a haN).1, e, h.here.1]
        · rw [pnn, (pvo a haN).2, h.here.2]
        · rw [(pvo a haN).1, (pvo a haN).2]; exact h.ext
        · rw [(pvo a haN).2, h.here.2]; exact hs
      · refine (h.new a haN b hb ?_).wider ?_ (by omega) (pvo a haN) pvo
        · rintro ⟨h1, h2⟩
          by_cases h3 : n + 1 ≤ pn a
          · exact hn ⟨h3, h2⟩
          · exact hc (h.there haN hb (by omega) h2)
        · unfold addB setB; rw [if_neg hN, if_neg hc]
  · have key : ∀ a, a < N → ¬ (pv a = cd σ / 2 ^ (ln σ - (n + 1)) ∧ pn a = n + 1) := by
      rintro a ha ⟨h1, h2⟩
      by_cases h0 : a = 0
      · subst h0; have := h.root.2; omega
      · obtain ⟨s, h3, h4, h5⟩ := h.used a (by omega) ha
        rw [h1, h2] at h4
        rcases h3 with h3 | ⟨_, h6⟩
        · exact hno s h3 h4
        · omega
    intro a a' ha ha' h1 h2
    by_cases hN : a = N
    · by_cases hN' : a' = N
      · rw [hN, hN']
      · rw [hN, pvn, (pvo a' (by omega)).1] at h1
        rw [hN, pnn, (pvo a' (by omega)).2] at h2
        exact absurd ⟨h1.symm, h2.symm⟩ (key a' (by omega))
    · by_cases hN' : a' = N
      · rw [hN', pvn, (pvo a (by omega)).1] at h1
        rw [hN', pnn, (pvo a (by omega)).2] at h2
        exact absurd ⟨h1, h2⟩ (key a (by omega))
      · rw [(pvo a (by omega)).1, (pvo a' (by omega)).1] at h1
        rw [(pvo a (by omega)).2, (pvo a' (by omega)).2] at h2
        exact h.one a a' (by omega) (by omega) h1 h2
  · intro j h0 hj
    by_cases hN : j = N
    · subst hN
      exact ⟨σ, .inr ⟨rfl, by rw [pnn]; exact Nat.le_refl _⟩, by rw [pvn, pnn]; exact hσ, by rw [pnn]; exact hs⟩
    · obtain ⟨s, h1, h2⟩ := h.used j h0 (by omega)
      rw [(pvo j (by omega)).1, (pvo j (by omega)).2]
      exact ⟨s, h1.imp id (fun h => ⟨h.1, by omega⟩), h2⟩
/-- The leaf. -/
theorem Mid.leaf {n at_ : Nat} (h : Mid cd ln In σ B N pv pn n at_) (hs : n + 1 = ln σ) : Grown cd ln (fun s => In s ∨ s = σ) (setB B at_ (nb cd ln σ n) (-1 - (σ : Int))) N pv pn := by
  have e := pre_next (cd := cd) n h.short
  refine ⟨h.pos, h.root, fun a ha b hb => ?_, h.one, fun j h0 hj => ?_⟩
  · by_cases hc : a = at_ ∧ b = nb cd ln σ n
    · obtain ⟨rfl, rfl⟩ := hc
      refine .inr (.inr ⟨σ, by unfold setB; rw [if_pos ⟨rfl, rfl⟩], .inr rfl, by rw [h.here.2]; exact hs.symm, ?_⟩)
      rw [h.here.1, ← e, hs, Nat.sub_self, Nat.pow_zero, Nat.div_one]
    · refine (h.new a ha b hb ?_).wider (by unfold setB; rw [if_neg hc]) (Nat.le_refl _) ⟨rfl, rfl⟩ (fun _ _ => ⟨rfl, rfl⟩)
      rintro ⟨h1, h2⟩
      have := h2.1
      exact hc (h.there ha hb (by omega) h2)
  · obtain ⟨s, h1, h2⟩ := h.used j h0 hj
    exact ⟨s, h1.imp id (fun h => h.1), h2⟩
/-- The empty tree. -/
theorem Grown.none (cd ln : Nat → Nat) (In : Nat → Prop) (hIn : ∀ s, ¬ In s) : Grown cd ln In (fun _ _ => 0) 1 (fun _ => 0) (fun _ => 0) :=
  ⟨by decide, ⟨rfl, rfl⟩, fun a _ b _ => .inl ⟨rfl, fun s hs => absurd hs (hIn s)⟩, fun a a' ha ha' _ _ => by omega, fun j h0 hj => by omega⟩
theorem Grown.congr {In' : Nat → Prop} (h : Grown cd ln In B N pv pn) (hi : ∀ s, In s ↔ In' s) : Grown cd ln In' B N pv pn := by
  have e : In = In' := funext fun s => propext (hi s)
  rw [← e]; exact h
end
end Go.Proofs.Ytjnglahjngiofaa
namespace Go.Proofs.Ytjnglahjngiofaa
open Go.RowKit
set_option maxRecDepth 100000

/-- The first n numbers behind a are m 0, m 1, .. -/
def IRow (w : World) (a : Option Addr) (n : Nat) (m : Nat → Int) : Prop :=
  n = 0 ∨ ∃ b off, a = some ⟨b, off, none⟩ ∧ b < w.heap.size ∧ ∀ i, i < n → w.cell? ⟨b, off + i, none⟩ = some (.int .i64 (m i))

section
variable {w w' : World} {a : Option Addr} {n : Nat} {m : Nat → Int}
theorem IRow.nil (w : World) (a : Option Addr) (m : Nat → Int) : IRow w a 0 m := .inl rfl
theorem IRow.get (h : IRow w a n m) (i : Nat) (hi : i < n) : ∃ b off, a = some ⟨b, off, none⟩ ∧ b < w.heap.size ∧ w.cell? ⟨b, off + i, none⟩ = some (.int .i64 (m i)) := by
  rcases h with h | ⟨b, off, h1, h2, h3⟩
  · omega
  · exact ⟨b, off, h1, h2, h3 i hi⟩
theorem IRow.below (h : IRow w a n m) (hb : Below w.heap.size w w') : IRow w' a n m := by
  rcases h with h | ⟨b, off, h1, h2, h3⟩
  · exact .inl h
  · exact .inr ⟨b, off, h1, Nat.lt_of_lt_of_le h2 hb.size, fun i hi => (hb.cell (p := ⟨b, off + i, none⟩) h2).trans (h3 i hi)⟩
theorem IRow.take (h : IRow w a n m) (k : Nat) (hk : k ≤ n) : IRow w a k m := by
  rcases h with h | ⟨b, off, h1, h2, h3⟩
  · exact .inl (by omega)
  · exact .inr ⟨b, off, h1, h2, fun i hi => h3 i (by omega)⟩
end

theorem info_int : (Try.prog.info? 3).map (fun i => (i.zero, i.size, i.bytes)) = some (some (.int .i64 0), 1, 8) := by kernel_rfl

/-- The cells of ints. -/
def icells (n : Nat) (m : Nat → Int) : List Value := (List.range n).map fun i => .int .i64 (m i)
theorem icells_length (n : Nat) (m : Nat → Int) : (icells n m).length = n := by simp [icells]
theorem icells_at (n : Nat) (m : Nat → Int) (i : Nat) (h : i < n) : (icells n m)[i]? = some (.int .i64 (m i)) := by simp [icells, h]
theorem icells_one (n : Nat) (m : Nat → Int) : ∀ u ∈ icells n m, u.oneCell' = true := by
  intro u hu
  simp only [icells, List.mem_map] at hu
  obtain ⟨i, _, rfl⟩ := hu
  rfl
theorem icells_succ (n : Nat) (m : Nat → Int) : icells (n + 1) m = icells n m ++ [.int .i64 (m n)] := by simp [icells, List.range_succ]

theorem IRow.ofOwn {w : World} {base g n cap : Nat} {m : Nat → Int} (h : w.ownsRow base 3 1 (.slice (some ⟨g, 0, none⟩) n cap) n (icells n m)) : IRow w (some ⟨g, 0, none⟩) n m := by
  refine .inr ⟨g, 0, rfl, (World.ownsRow.lt h g (by simp [Value.ownBlock])).2, fun i hi => ?_⟩
  rw [Nat.zero_add, World.ownsRow.cellAt h i (by omega), icells_at n m i hi]
/-- append(own, l...) where l is a slice of ints that came in. -/
theorem wpList_append_irow {ops : Array Oper} {rest : List Oper} {o : Oper} {a : Act} {Q : Exit → Act → World → Prop} {w : World} (hgd : o.guard = none) (s x : Operand)
    (ho : o.op = .call { callee := .builtin .append, args := #[s, x], argTypes := #[22, 22] })
    (base : Nat) (v : Value) (n : Nat) (m0 : Nat → Int) (hown : w.ownsRow base 3 1 v n (icells n m0)) (hs : a.eval s = v)
    (p : Option Addr) (k c : Nat) (m1 : Nat → Int) (hx : a.eval x = .slice p k c) (hr : IRow w p k m1) (hnil : p = none → k = 0 ∧ c = 0)
    (h63 : n + k ≤ 1000000000) (hbase : base ≤ w.heap.size)
    (h : ∀ v' w', w'.ownsRow base 3 1 v' (n + k) (icells n m0 ++ icells k m1) → w.grownBy w' v.ownBlock → (v = .slice none 0 0 ∨ v' ≠ .slice none 0 0) → wpList Try.prog ops Q rest (a.put o.dst v') w') :
    wpList Try.prog ops Q (o :: rest) a w := by
  obtain ⟨i0, hi, hz0, hz1, hz2⟩ := info_parts info_int
  have hi' : Try.prog.info? 3 = some i0 := hi
  rcases p with _ | ⟨b, off, sp⟩
  · obtain ⟨rfl, rfl⟩ := hnil rfl
    refine wpList_append_own_none hgd s x 22 ho base 3 i0 1 Try.underlying22 hi' v n _ hs hown hx (h v w ?_ ?_ ?_)
    · simpa [icells] using hown
    · exact World.grownBy.refl w _
    · by_cases e : v = .slice none 0 0
      · exact .inl e
      · exact .inr e
  · refine wpList_append_own w hgd s x 22 ho base 3 i0 (.int .i64 0) 1 8 Try.underlying22 hi' hz0 hz1 hz2 rfl (by decide) v n _ hs hown ⟨b, off, sp⟩ k c (icells k m1) hx (by rw [icells_length, Nat.mul_one]) ?_ (icells_one _ _) (by unfold maxLen; omega) (by omega) hbase ?_
    · intro j u hj
      have hjk : j < k := by
        have := (List.getElem?_eq_some_iff.1 hj).1
        rwa [icells_length] at this
      rw [icells_at k m1 j hjk] at hj
      obtain ⟨b', off', he, _, hc⟩ := hr.get j hjk
      injection he with he
      injection he with e1 e2 e3
      subst e1 e2 e3
      have e : (⟨b, off, none⟩ : Addr).add j = ⟨b, off + j, none⟩ := by unfold Addr.add; split <;> simp_all
      rw [e, hc]
      exact hj
    · intro v' w' h1 h2 h3
      refine h v' w' h1 h2 ?_
      by_cases e : v = .slice none 0 0
      · exact .inl e
      · exact .inr fun e2 => e (h3.1 e2).1
end Go.Proofs.Ytjnglahjngiofaa
namespace Go.Proofs.Ytjnglahjngiofaa

/-- A length's part of the whole (32768); 0: it is none. -/
def pt (L : Nat) : Nat := if 0 < L then 2 ^ (15 - L) else 0
/-- A sum over the first k. -/
def sumTo (f : Nat → Nat) : Nat → Nat
  | 0 => 0
  | k + 1 => sumTo f k + f k
def cntTo (p : Nat → Bool) : Nat → Nat
  | 0 => 0
  | k + 1 => cntTo p k + if p k then 1 else 0

theorem sumTo_le (f g : Nat → Nat) (k : Nat) (h : ∀ j, j < k → f j ≤ g j) : sumTo f k ≤ sumTo g k := by
  induction k with
  | zero => exact Nat.le_refl _
  | succ k ih =>
    have := ih (fun j hj => h j (by omega))
    have := h k (by omega)
    simp only [sumTo]; omega
theorem sumTo_congr (f g : Nat → Nat) (k : Nat) (h : ∀ j, j < k → f j = g j) : sumTo f k = sumTo g k :=
  Nat.le_antisymm (sumTo_le f g k fun j hj => Nat.le_of_eq (h j hj)) (sumTo_le g f k fun j hj => Nat.le_of_eq (h j hj).symm)
theorem sumTo_add (f g : Nat → Nat) (k : Nat) : sumTo (fun j => f j + g j) k = sumTo f k + sumTo g k := by
  induction k with
  | zero => rfl
  | succ k ih => simp only [sumTo, ih]; omega
theorem sumTo_one (s v : Nat) (k : Nat) (h : s < k) : sumTo (fun j => if j = s then v else 0) k = v := by
  induction k with
  | zero => omega
  | succ k ih =>
    simp only [sumTo]
    by_cases e : k = s
    · subst e
      have h0 : sumTo (fun j => if j = k then v else 0) k = 0 := by
        have : ∀ n, n ≤ k → sumTo (fun j => if j = k then v else 0) n = 0 := by
          intro n
          induction n with
          | zero => intro _; rfl
          | succ n ih2 => intro hn; simp only [sumTo, ih2 (by omega)]; rw [if_neg (by omega)]
        exact this k (Nat.le_refl _)
      rw [h0, if_pos rfl]; omega
    · rw [ih (by omega), if_neg e]; omega
theorem sumTo_dvd (d : Nat) (f : Nat → Nat) (k : Nat) (h : ∀ j, j < k → d ∣ f j) : d ∣ sumTo f k := by
  induction k with
  | zero => exact Nat.dvd_zero d
  | succ k ih => exact Nat.dvd_add (ih fun j hj => h j (by omega)) (h k (by omega))
theorem sumTo_bound (f : Nat → Nat) (B k : Nat) (h : ∀ j, j < k → f j ≤ B) : sumTo f k ≤ B * k := by
  induction k with
  | zero => exact Nat.zero_le _
  | succ k ih =>
    have := ih (fun j hj => h j (by omega))
    have := h k (by omega)
    simp only [sumTo, Nat.mul_succ]; omega
theorem cntTo_le (p : Nat → Bool) (k : Nat) : cntTo p k ≤ k := by
  induction k with
  | zero => exact Nat.le_refl _
  | succ k ih => simp only [cntTo]; split <;> omega

/-- Does t's code stand ahead of s's? -/
def ahead (L : Nat → Nat) (t s : Nat) : Bool := decide (0 < L t) && (decide (L t < L s) || (decide (L t = L s) && decide (t < s)))
/-- Where s's code begins, in parts. -/
def pre (L : Nat → Nat) (n s : Nat) : Nat := sumTo (fun t => if ahead L t s then pt (L t) else 0) n
/-- s's code. -/
def codeOf (L : Nat → Nat) (n s : Nat) : Nat := pre L n s / 2 ^ (15 - L s)
/-- All parts. -/
def parts (L : Nat → Nat) (n : Nat) : Nat := sumTo (fun t => pt (L t)) n
def someOf (L : Nat → Nat) (n : Nat) : Nat := cntTo (fun t => decide (0 < L t)) n

theorem pt_le (L : Nat) : pt L ≤ 16384 := by
  unfold pt
  split
  · have : 2 ^ (15 - L) ≤ 2 ^ 14 := Nat.pow_le_pow_right (by decide) (by omega)
    exact this
  · exact Nat.zero_le _
theorem parts_le (L : Nat → Nat) (n : Nat) : parts L n ≤ 16384 * n := sumTo_bound _ _ _ fun j _ => pt_le (L j)

theorem pre_dvd (L : Nat → Nat) (n s : Nat) : 2 ^ (15 - L s) ∣ pre L n s := by
  refine sumTo_dvd _ _ _ fun t _ => ?_
  split
  · rename_i h
    unfold ahead at h
    simp only [Bool.and_eq_true, Bool.or_eq_true, decide_eq_true_eq] at h
    unfold pt
    rw [if_pos h.1]
    exact Nat.pow_dvd_pow 2 (by omega)
  · exact Nat.dvd_zero _

theorem pre_end (L : Nat → Nat) (n s : Nat) (hs : s < n) (h0 : 0 < L s) : pre L n s + 2 ^ (15 - L s) ≤ parts L n := by
  have e : pre L n s + 2 ^ (15 - L s) = sumTo (fun t => (if ahead L t s then pt (L t) else 0) + if t = s then 2 ^ (15 - L s) else 0) n := by
    rw [sumTo_add, sumTo_one s _ n hs]; rfl
  rw [e]
  refine sumTo_le _ _ _ fun t _ => ?_
  by_cases e : t = s
  · subst e
    have ha : ahead L t t = false := by unfold ahead; simp
    rw [ha, if_pos rfl]
    unfold pt
    rw [if_pos h0]
    simp
  · rw [if_neg e]
    split <;> omega

theorem pre_before (L : Nat → Nat) (n s t : Nat) (hs : s < n) (h : ahead L s t = true) : pre L n s + 2 ^ (15 - L s) ≤ pre L n t := by
  have e : pre L n s + 2 ^ (15 - L s) = sumTo (fun r => (if ahead L r s then pt (L r) else 0) + if r = s then 2 ^ (15 - L s) else 0) n := by
    rw [sumTo_add, sumTo_one s _ n hs]; rfl
  rw [e]
  refine sumTo_le _ _ _ fun r _ => ?_
  by_cases e : r = s
  · subst e
    have ha : ahead L r r = false := by unfold ahead; simp
    rw [ha, if_pos rfl, h]
    unfold ahead at h
    simp only [Bool.and_eq_true, decide_eq_true_eq] at h
    unfold pt
    rw [if_pos h.1]
    simp
  · rw [if_neg e]
    by_cases h2 : ahead L r s = true
    · have h3 : ahead L r t = true := by
        unfold ahead at *
        simp only [Bool.and_eq_true, Bool.or_eq_true, decide_eq_true_eq] at *
        omega
      rw [h2, h3]
      simp
    · simp only [Bool.not_eq_true] at h2
      rw [h2]
      simp

theorem code_fits (L : Nat → Nat) (n s : Nat) (hs : s < n) (h0 : 0 < L s) (h15 : L s ≤ 15) (hp : parts L n ≤ 32768) : codeOf L n s < 2 ^ L s := by
  unfold codeOf
  rw [Nat.div_lt_iff_lt_mul (Nat.pow_pos (by decide)), ← Nat.pow_add, show L s + (15 - L s) = 15 by omega]
  have := pre_end L n s hs h0
  have h1 : 0 < 2 ^ (15 - L s) := Nat.pow_pos (by decide)
  have h2 : (2 : Nat) ^ 15 = 32768 := by decide
  omega

/-- No code begins another one: the one that stands ahead. -/
theorem code_apart (L : Nat → Nat) (n s t : Nat) (hs : s < n) (h : ahead L s t = true) (h15 : L t ≤ 15) : codeOf L n t / 2 ^ (L t - L s) ≠ codeOf L n s := by
  have hb := pre_before L n s t hs h
  have hle : L s ≤ L t := by
    unfold ahead at h
    simp only [Bool.and_eq_true, Bool.or_eq_true, decide_eq_true_eq] at h
    omega
  unfold codeOf
  rw [Nat.div_div_eq_div_mul, ← Nat.pow_add, show 15 - L t + (L t - L s) = 15 - L s by omega]
  have hp : 0 < 2 ^ (15 - L s) := Nat.pow_pos (by decide)
  have h1 : (pre L n s + 2 ^ (15 - L s)) / 2 ^ (15 - L s) ≤ pre L n t / 2 ^ (15 - L s) := Nat.div_le_div_right hb
  rw [Nat.add_div_right _ hp] at h1
  omega
theorem ahead_total (L : Nat → Nat) (s t : Nat) (hs : 0 < L s) (ht : 0 < L t) (h : s ≠ t) : ahead L s t = true ∨ ahead L t s = true := by
  unfold ahead
  simp only [Bool.and_eq_true, Bool.or_eq_true, decide_eq_true_eq]
  omega
end Go.Proofs.Ytjnglahjngiofaa
namespace Go.Proofs.Ytjnglahjngiofaa
open Go.RowKit
set_option maxRecDepth 100000

/-- What has a code already: lengths below N, and those of length N before s. -/
def ahd (L : Nat → Nat) (N s t : Nat) : Bool := decide (0 < L t) && (decide (L t < N) || (decide (L t = N) && decide (t < s)))
def nxt (L : Nat → Nat) (n N s : Nat) : Nat := sumTo (fun t => if ahd L N s t then pt (L t) else 0) n
theorem nxt_pre (L : Nat → Nat) (n s : Nat) : nxt L n (L s) s = pre L n s := rfl
theorem nxt_step (L : Nat → Nat) (n N s : Nat) (hs : s < n) (hN : 0 < N) (h : L s = N) : nxt L n N (s + 1) = nxt L n N s + 2 ^ (15 - N) := by
  have e : nxt L n N s + 2 ^ (15 - N) = sumTo (fun t => (if ahd L N s t then pt (L t) else 0) + if t = s then 2 ^ (15 - N) else 0) n := by
    rw [sumTo_add, sumTo_one s _ n hs]; rfl
  rw [e]
  refine sumTo_congr _ _ _ fun t _ => ?_
  by_cases e : t = s
  · subst e
    have h1 : ahd L N t t = false := by unfold ahd; simp; omega
    have h2 : ahd L N (t + 1) t = true := by unfold ahd; simp; omega
    rw [h1, h2, if_pos rfl]
    unfold pt
    rw [h, if_pos hN]
    simp
  · have h1 : ahd L N (s + 1) t = ahd L N s t := by
      unfold ahd
      have : decide (t < s + 1) = decide (t < s) := by simp; omega
      rw [this]
    rw [h1, if_neg e]
    omega
theorem nxt_skip (L : Nat → Nat) (n N s : Nat) (h : L s ≠ N) : nxt L n N (s + 1) = nxt L n N s := by
  refine sumTo_congr _ _ _ fun t _ => ?_
  have h1 : ahd L N (s + 1) t = ahd L N s t := by
    unfold ahd
    by_cases e : t = s
    · subst e
      have : decide (L t = N) = false := by simpa using h
      rw [this]; simp
    · have : decide (t < s + 1) = decide (t < s) := by simp; omega
      rw [this]
  rw [h1]
theorem nxt_round (L : Nat → Nat) (n N : Nat) : nxt L n (N + 1) 0 = nxt L n N n := by
  refine sumTo_congr _ _ _ fun t ht => ?_
  have h1 : ahd L (N + 1) 0 t = ahd L N n t := by
    unfold ahd
    have : (decide (L t < N + 1) || (decide (L t = N + 1) && decide (t < 0))) = (decide (L t < N) || (decide (L t = N) && decide (t < n))) := by
      rw [Bool.eq_iff_iff]; simp; omega
    rw [this]
  rw [h1]
theorem nxt_zero (L : Nat → Nat) (n : Nat) : nxt L n 1 0 = 0 := by
  have : ∀ k, sumTo (fun t => if ahd L 1 0 t then pt (L t) else 0) k = 0 := by
    intro k
    induction k with
    | zero => rfl
    | succ k ih =>
      have h1 : ahd L 1 0 k = false := by unfold ahd; simp; omega
      simp only [sumTo, ih, h1]; simp
  exact this n
theorem nxt_le (L : Nat → Nat) (n N s : Nat) : nxt L n N s ≤ parts L n := sumTo_le _ _ _ fun t _ => by split <;> omega

/-- Symbol t's code and its length, where N, s have been reached. -/
def cbitsAt (L : Nat → Nat) (n N s t : Nat) : Nat := if ahd L N s t then codeOf L n t else 0
def lenAt (L : Nat → Nat) (N s t : Nat) : Nat := if ahd L N s t then L t else 0
/-- A symbol's code, 0 where it has none. -/
def bitsF (L : Nat → Nat) (n t : Nat) : Nat := if 0 < L t then codeOf L n t else 0
/-- The cells of codes. -/
def ccell (f g : Nat → Nat) (i : Nat) : Value := if i % 2 = 0 then .int .u32 (f (i / 2) : Int) else .int .i64 (g (i / 2) : Int)
def ccells (n : Nat) (f g : Nat → Nat) : Array Value := fcells (2 * n) (ccell f g)

theorem ccells_set (n : Nat) (f g : Nat → Nat) (s b l : Nat) :
    ((ccells n f g).setIfInBounds (2 * s) (.int .u32 (b : Int))).setIfInBounds (2 * s + 1) (.int .i64 (l : Int)) = ccells n (fun t => if t = s then b else f t) (fun t => if t = s then l else g t) := by
  unfold ccells
  rw [fcells_set, fcells_set]
  refine fcells_congr _ _ _ fun i _ => ?_
  unfold ccell
  by_cases h1 : i = 2 * s + 1
  · subst h1
    have e1 : (2 * s + 1) % 2 ≠ 0 := by omega
    have e2 : (2 * s + 1) / 2 = s := by omega
    rw [if_pos rfl, if_neg e1, e2]; simp
  · rw [if_neg h1]
    by_cases h2 : i = 2 * s
    · subst h2
      have e1 : (2 * s) % 2 = 0 := by omega
      have e2 : (2 * s) / 2 = s := by omega
      rw [if_pos rfl, if_pos e1, e2]; simp
    · rw [if_neg h2]
      have e : i / 2 ≠ s := by omega
      simp only [if_neg e]

theorem at_next (L : Nat → Nat) (n N s : Nat) (hN : 0 < N) (h : L s = N) : (fun t => if t = s then nxt L n N s / 2 ^ (15 - N) else cbitsAt L n N s t) = cbitsAt L n N (s + 1) ∧ (fun t => if t = s then N else lenAt L N s t) = lenAt L N (s + 1) := by
  constructor
  · funext t
    unfold cbitsAt
    by_cases e : t = s
    · subst e
      have h2 : ahd L N (t + 1) t = true := by unfold ahd; simp; omega
      rw [if_pos rfl, h2, if_pos rfl]
      unfold codeOf
      rw [← nxt_pre, h]
    · have h1 : ahd L N (s + 1) t = ahd L N s t := by
        unfold ahd
        have : decide (t < s + 1) = decide (t < s) := by simp; omega
        rw [this]
      rw [if_neg e, h1]
  · funext t
    unfold lenAt
    by_cases e : t = s
    · subst e
      have h2 : ahd L N (t + 1) t = true := by unfold ahd; simp; omega
      rw [if_pos rfl, h2, if_pos rfl, h]
    · have h1 : ahd L N (s + 1) t = ahd L N s t := by
        unfold ahd
        have : decide (t < s + 1) = decide (t < s) := by simp; omega
        rw [this]
      rw [if_neg e, h1]
theorem ahd_skip (L : Nat → Nat) (N s : Nat) (h : L s ≠ N) : ahd L N (s + 1) = ahd L N s := by
  funext t
  unfold ahd
  by_cases e : t = s
  · subst e
    have : decide (L t = N) = false := by simpa using h
    rw [this]; simp
  · have : decide (t < s + 1) = decide (t < s) := by simp; omega
    rw [this]
theorem at_skip (L : Nat → Nat) (n N s : Nat) (h : L s ≠ N) : cbitsAt L n N (s + 1) = cbitsAt L n N s ∧ lenAt L N (s + 1) = lenAt L N s := by
  constructor
  · funext t; unfold cbitsAt; rw [ahd_skip L N s h]
  · funext t; unfold lenAt; rw [ahd_skip L N s h]
theorem ahd_round (L : Nat → Nat) (n N t : Nat) (ht : t < n) : ahd L (N + 1) 0 t = ahd L N n t := by
  unfold ahd
  have : (decide (L t < N + 1) || (decide (L t = N + 1) && decide (t < 0))) = (decide (L t < N) || (decide (L t = N) && decide (t < n))) := by
    rw [Bool.eq_iff_iff]; simp; omega
  rw [this]
theorem ccells_congr (n : Nat) (f g f' g' : Nat → Nat) (h : ∀ t, t < n → f t = f' t ∧ g t = g' t) : ccells n f g = ccells n f' g' := by
  refine fcells_congr _ _ _ fun i hi => ?_
  unfold ccell
  have := h (i / 2) (by omega)
  rw [this.1, this.2]
theorem cc_round (L : Nat → Nat) (n N : Nat) : ccells n (cbitsAt L n N n) (lenAt L N n) = ccells n (cbitsAt L n (N + 1) 0) (lenAt L (N + 1) 0) := by
  refine ccells_congr _ _ _ _ _ fun t ht => ?_
  unfold cbitsAt lenAt
  rw [ahd_round L n N t ht]
  exact ⟨rfl, rfl⟩
theorem cc_start (L : Nat → Nat) (n : Nat) : ccells n (fun _ => 0) (fun _ => 0) = ccells n (cbitsAt L n 1 0) (lenAt L 1 0) := by
  refine ccells_congr _ _ _ _ _ fun t ht => ?_
  have h1 : ahd L 1 0 t = false := by unfold ahd; simp; omega
  unfold cbitsAt lenAt
  rw [h1]
  exact ⟨rfl, rfl⟩
theorem cc_end (L : Nat → Nat) (n : Nat) (h : ∀ t, t < n → L t ≤ 15) : ccells n (cbitsAt L n 16 0) (lenAt L 16 0) = ccells n (bitsF L n) L := by
  refine ccells_congr _ _ _ _ _ fun t ht => ?_
  have := h t ht
  unfold cbitsAt lenAt bitsF
  by_cases h0 : 0 < L t
  · have h1 : ahd L 16 0 t = true := by unfold ahd; simp; omega
    rw [h1, if_pos rfl, if_pos rfl, if_pos h0]
    exact ⟨rfl, rfl⟩
  · have h1 : ahd L 16 0 t = false := by unfold ahd; simp; omega
    rw [h1, if_neg h0]
    exact ⟨rfl, by simp; omega⟩

/-- Do the lengths make codes? -/
def Fits (p s : Nat) : Prop := p ≤ 32768 ∧ (p = 32768 ∨ s = 0 ∨ s = 1 ∧ p = 16384)
/-- The codes of the lengths L, in memory of the call's own. -/
def OwnC (w : World) (base n : Nat) (L : Nat → Nat) (v : Value) : Prop := ∃ g, v = .slice (some ⟨g, 0, none⟩) n n ∧ base ≤ g ∧ Blk w g 88 (ccells n (bitsF L n) L)
def lens (m : Nat → Int) (i : Nat) : Nat := (m i).toNat
def bad (k : Nat) : Ending := .returned (.tuple #[.slice none 0 0, .int .i64 (k : Int)])
/-- What Codes hands back. -/
def CodesPost (w : World) (n : Nat) (m : Nat → Int) (e : Ending) (w' : World) : Prop :=
  Below w.heap.size w w' ∧
  ((320 < n ∧ e = bad 2) ∨ (n ≤ 320 ∧ (∃ i, i < n ∧ ¬ (0 ≤ m i ∧ m i ≤ 15)) ∧ e = bad 1) ∨
   (n ≤ 320 ∧ (∀ i, i < n → 0 ≤ m i ∧ m i ≤ 15) ∧ ¬ Fits (parts (lens m) n) (someOf (lens m) n) ∧ e = bad 4) ∨
   (n ≤ 320 ∧ (∀ i, i < n → 0 ≤ m i ∧ m i ≤ 15) ∧ Fits (parts (lens m) n) (someOf (lens m) n) ∧ ∃ v, e = .returned (.tuple #[v, .int .i64 0]) ∧ OwnC w' w.heap.size n (lens m) v))

theorem info_code : (Try.prog.info? 88).map (fun i => (i.zero, i.size, i.bytes)) = some (some (.agg #[.int .u32 0, .int .i64 0]), 2, 16) := by kernel_rfl
theorem ccells_bits (n : Nat) (f g : Nat → Nat) (t i : Nat) (hi : i = t * 2) (ht : t < n) : (ccells n f g)[i]? = some (.int .u32 (f t : Int)) := by
  subst hi
  unfold ccells
  rw [fcells_at _ _ _ (by omega)]
  unfold ccell
  rw [if_pos (by omega), show t * 2 / 2 = t by omega]
theorem ccells_len (n : Nat) (f g : Nat → Nat) (t i : Nat) (hi : i = t * 2 + 1) (ht : t < n) : (ccells n f g)[i]? = some (.int .i64 (g t : Int)) := by
  subst hi
  unfold ccells
  rw [fcells_at _ _ _ (by omega)]
  unfold ccell
  rw [if_neg (by omega), show (t * 2 + 1) / 2 = t by omega]
theorem ccells_made (n : Nat) : madeCells #[.int .u32 0, .int .i64 0] (n * 2) = ccells n (fun _ => 0) (fun _ => 0) := by
  apply Array.ext_getElem?
  intro i
  unfold ccells
  by_cases hi : i < 2 * n
  · rw [fcells_at _ _ i hi]
    unfold madeCells ccell
    have h1 : (Array.range (n * 2))[i]? = some i := by simp [Array.getElem?_range]; omega
    rw [Array.getElem?_map, h1]
    rcases Nat.mod_two_eq_zero_or_one i with h | h
    · simp [h]
    · simp [h]
  · rw [fcells_out _ _ i hi]
    have : (madeCells #[.int .u32 0, .int .i64 0] (n * 2)).size ≤ i := by rw [size_madeCells]; omega
    exact Array.getElem?_eq_none this

/-- make([]Code, n) -/
theorem run_make_c (n : Nat) (hn : n ≤ 1000000) (w : World) :
    (Instr.makeSlice 79 (.int .i64 (n : Int)) (.int .i64 (n : Int))).run Try.prog w = .ok (.slice (some ⟨w.heap.size, 0, none⟩) n n) (w.alloc (.cells (ccells n (fun _ => 0) (fun _ => 0)) 88)) := by
  obtain ⟨i0, hi, hz0, hz1, hz2⟩ := info_parts info_code
  have hr := run_make (P := Try.prog) w 79 88 i0 _ Try.underlying79 hi hz0 .i64 .i64 n n (by omega) (by omega) (by rw [hz2]; omega) (by omega)
  simp only [Int.toNat_natCast] at hr
  have e : (Value.agg #[.int .u32 0, .int .i64 0]).cells = #[.int .u32 0, .int .i64 0] := rfl
  rw [hz1, e, ccells_made] at hr
  exact hr
end Go.Proofs.Ytjnglahjngiofaa
namespace Go.Proofs.Ytjnglahjngiofaa
open Go.RowKit
set_option maxRecDepth 100000

theorem parts_succ (L : Nat → Nat) (k : Nat) : parts L (k + 1) = parts L k + pt (L k) := rfl
theorem some_succ (L : Nat → Nat) (k : Nat) : someOf L (k + 1) = someOf L k + if 0 < L k then 1 else 0 := by
  unfold someOf
  simp only [cntTo, decide_eq_true_eq]
theorem pow_min (c : Nat) (hc : c ≤ 15) : (2 : Int) ^ min (15 - (c : Int)).toNat 64 = ((2 ^ (15 - c) : Nat) : Int) := by
  have e : min (15 - (c : Int)).toNat 64 = 15 - c := by omega
  rw [e]; simp
theorem pow_min32 (c : Nat) (hc : c ≤ 15) : (2 : Int) ^ min (15 - (c : Int)).toNat 32 = ((2 ^ (15 - c) : Nat) : Int) := by
  have e : min (15 - (c : Int)).toNat 32 = 15 - c := by omega
  rw [e]; simp
theorem pow_le15 (c : Nat) : 0 < 2 ^ (15 - c) ∧ 2 ^ (15 - c) ≤ 32768 := ⟨Nat.pow_pos (by decide), Nat.pow_le_pow_right (n := 2) (i := 15 - c) (j := 15) (by decide) (by omega)⟩

set_option maxHeartbeats 2000000 in
theorem codes_any (a : Option Addr) (n cap : Nat) (m : Nat → Int) (hn : n ≤ 1000000) (w : World) (hr : IRow w a n m) :
    Calls Try.prog 39 #[.slice a n cap] w (CodesPost w n m) := by
  have Hr := Lib.hid hr
  clear hr
  by_cases h320 : 320 < n
  · go_enter Try.func39, Try.ntmps39
    go_wp2_with fail
    go_ret2
    exact ⟨Below.refl _ _, .inl ⟨h320, rfl⟩⟩
  · go_enter Try.func39, Try.ntmps39
    go_wp2_with fail
    go_loop [4, 5, 7, 18] (fun room some _ i => ∃ k : Nat, k ≤ n ∧ i = .int .i64 (k : Int) ∧ room = .int .i64 (32768 - (parts (lens m) k : Int)) ∧ some = .int .i64 (someOf (lens m) k : Int) ∧ ∀ j, j < k → 0 ≤ m j ∧ m j ≤ 15)
      (fun _ _ _ i => n - (intOf i).toNat)
    case atStart => exact ⟨0, by omega, rfl, rfl, rfl, fun j hj => by omega⟩
    case round =>
      obtain ⟨k, hk, rfl, rfl, rfl, hok⟩ := hrel
      have Hok := Lib.hid hok
      clear hok
      by_cases hlt : k < n
      · obtain ⟨b, off, rfl, hbl, hc⟩ := Hr.out.get k hlt
        by_cases h0 : m k < 0
        · go_wp2_with fail
          go_ret2
          exact ⟨Below.refl _ _, .inr (.inl ⟨by omega, ⟨k, hlt, by omega⟩, rfl⟩)⟩
        · by_cases h15 : 15 < m k
          · go_wp2_with fail
            go_ret2
            exact ⟨Below.refl _ _, .inr (.inl ⟨by omega, ⟨k, hlt, by omega⟩, rfl⟩)⟩
          · obtain ⟨c, hcm⟩ : ∃ c : Nat, m k = (c : Int) := ⟨(m k).toNat, by omega⟩
            have HL := Lib.hid (show lens m k = c by unfold lens; rw [hcm]; rfl)
            have Hp := Lib.hid (parts_succ (lens m) k)
            have Hs := Lib.hid (some_succ (lens m) k)
            have hp1 := parts_le (lens m) k
            have hs1 := cntTo_le (fun t => decide (0 < lens m t)) k
            have hs1 : someOf (lens m) k ≤ k := hs1
            have Hok2 : Hid (∀ j, j < k + 1 → 0 ≤ m j ∧ m j ≤ 15) := fun j hj => by
              by_cases e : j = k
              · subst e; omega
              · exact Hok.out j (by omega)
            rw [HL.out] at Hp Hs
            rw [hcm] at hc h0 h15
            clear hcm
            generalize parts (lens m) k = p at *
            generalize someOf (lens m) k = t at *
            by_cases hz : c = 0
            · subst hz
              go_wp2_with fail
              go_round
              case rel => exact ⟨k + 1, by omega, by go_num, by rw [Hp.out]; rfl, by rw [Hs.out]; rfl, Hok2.out⟩
              case measure => simp [intOf]; omega
            · have hpm : (2 : Int) ^ (15 - c) = ((2 ^ (15 - c) : Nat) : Int) := by simp
              have hq := pow_le15 c
              have Hpt : Hid (pt c = 2 ^ (15 - c)) := by show _ = _; unfold pt; rw [if_pos (by omega)]
              rw [Hpt.out] at Hp
              rw [if_pos (by omega)] at Hs
              generalize 2 ^ (15 - c) = q at *
              go_wp2_with fail
              go_round
              case rel => exact ⟨k + 1, by omega, by go_num, by rw [Hp.out]; go_num, by rw [Hs.out]; go_num, Hok2.out⟩
              case measure => simp [intOf]; omega
      · obtain rfl : k = n := by omega
        have hp1 := parts_le (lens m) k
        have hs1 := cntTo_le (fun t => decide (0 < lens m t)) k
        have hs1 : someOf (lens m) k ≤ k := hs1
        obtain ⟨p, Hp⟩ : ∃ p, Hid (parts (lens m) k = p) := ⟨_, rfl⟩
        obtain ⟨t, Ht⟩ : ∃ t, Hid (someOf (lens m) k = t) := ⟨_, rfl⟩
        rw [Hp.out, Ht.out]
        rw [Hp.out] at hp1
        rw [Ht.out] at hs1
        by_cases hf : Fits p t
        · obtain ⟨r, hr, hf2⟩ : ∃ r : Nat, 32768 - (p : Int) = (r : Int) ∧ (r = 0 ∨ (0 < r ∧ t = 0) ∨ (t = 1 ∧ r = 16384)) := ⟨32768 - p, by unfold Fits at hf; omega, by unfold Fits at hf; omega⟩
          have Hf := Lib.hid hf
          clear hf
          have hp32 : p ≤ 32768 := by have := Hf.out; unfold Fits at this; omega
          have hmk := run_make_c k (by omega)
          have Hz := Lib.hid (nxt_zero (lens m) k)
          have Hcs := Lib.hid (cc_start (lens m) k)
          rw [hr]
          clear hr
          rcases hf2 with rfl | ⟨h1, rfl⟩ | ⟨rfl, rfl⟩
          all_goals
            go_wp2_with fail
            have hB0 := Blk.new w 88 (ccells k (fun _ => 0) (fun _ => 0))
            have hb0 := (Below.refl w.heap.size w).alloc (Nat.le_refl _) (.cells (ccells k (fun _ => 0) (fun _ => 0)) 88)
            generalize w.alloc (.cells (ccells k (fun _ => 0) (fun _ => 0)) 88) = w1 at *
            go_loopw [9, 10, 11, 12] (fun nx n _ _ wr => ∃ N : Nat, 1 ≤ N ∧ N ≤ 16 ∧ n = .int .i64 (N : Int) ∧ nx = .int .u32 (nxt (lens m) k N 0 : Int) ∧ Blk wr w.heap.size 88 (ccells k (cbitsAt (lens m) k N 0) (lenAt (lens m) N 0)) ∧ Below w.heap.size w wr)
              (fun _ n _ _ _ => 16 - (intOf n).toNat)
            case atStart => exact ⟨1, by omega, by omega, rfl, by rw [Hz.out]; rfl, by rw [← Hcs.out]; exact hB0, hb0⟩
            case round =>
              clear hB0 hb0 hmk
              obtain ⟨N, hN1, hN, rfl, rfl, hB, hb⟩ := hrel
              by_cases hltN : N ≤ 15
              · have hB0 := hB
                have hb0 := hb
                go_wp2_with fail
                clear hB hb
                go_loopw [9, 11, 12, 65] (fun nx _ _ i wr => ∃ s : Nat, s ≤ k ∧ i = .int .i64 (s : Int) ∧ nx = .int .u32 (nxt (lens m) k N s : Int) ∧ Blk wr w.heap.size 88 (ccells k (cbitsAt (lens m) k N s) (lenAt (lens m) N s)) ∧ Below w.heap.size w wr)
                  (fun _ _ _ i _ => k - (intOf i).toNat)
                case atStart => exact ⟨0, by omega, rfl, rfl, hB0, hb0⟩
                case round =>
                  clear hB0 hb0
                  obtain ⟨s, hs, rfl, rfl, hB, hb⟩ := hrel
                  by_cases hlts : s < k
                  · obtain ⟨b, off, rfl, hbl, hc⟩ := Hr.out.get s hlts
                    have hc2 := (hb.cell (p := ⟨b, off + s, none⟩) hbl).trans hc
                    have hms := Hok.out s hlts
                    obtain ⟨c, hcm⟩ : ∃ c : Nat, m s = (c : Int) := ⟨(m s).toNat, by omega⟩
                    have HL := Lib.hid (show lens m s = c by unfold lens; rw [hcm]; rfl)
                    rw [hcm] at hc hc2 hms
                    by_cases hcN : c = N
                    · subst hcN
                      have hpm : (2 : Int) ^ (15 - c) = ((2 ^ (15 - c) : Nat) : Int) := by simp
                      have hq := pow_le15 c
                      have Hnx := Lib.hid (nxt_step (lens m) k c s hlts (by omega) HL.out)
                      have Hat := Lib.hid (at_next (lens m) k c s (by omega) HL.out)
                      have hxl := nxt_le (lens m) k c s
                      rw [Hp.out] at hxl
                      have hst := ccells_set k (cbitsAt (lens m) k c s) (lenAt (lens m) c s) s (nxt (lens m) k c s / 2 ^ (15 - c)) c
                      rw [Hat.out.1, Hat.out.2] at hst
                      have Hst := Lib.hid hst
                      clear hst Hat hcm
                      have hdv : ((nxt (lens m) k c s : Nat) : Int) / ((2 ^ (15 - c) : Nat) : Int) = ((nxt (lens m) k c s / 2 ^ (15 - c) : Nat) : Int) := by simp
                      have hy : nxt (lens m) k c s / 2 ^ (15 - c) ≤ nxt (lens m) k c s := Nat.div_le_self _ _
                      generalize nxt (lens m) k c s / 2 ^ (15 - c) = y at *
                      generalize nxt (lens m) k c s = x at *
                      generalize 2 ^ (15 - c) = q at *
                      rw [show 2 * s = s * 2 by omega] at Hst
                      have hf1 := hB.frozen (s * 2)
                      have hf2 := hB.frozen (s * 2 + 1)
                      have hc1 := hB.cell (s * 2)
                      have hc3 := hB.cell (s * 2 + 1)
                      unfold ccells at hc1 hc3
                      rw [fcells_at _ _ _ (by omega)] at hc1 hc3
                      unfold ccell at hc1 hc3
                      rw [if_pos (by omega)] at hc1
                      rw [if_neg (by omega)] at hc3
                      go_wp2_with fail
                      go_roundw
                      case rel =>
                        refine ⟨s + 1, by omega, by go_num, by rw [Hnx.out]; go_num, ?_, (hb.setCell (p := ⟨w.heap.size, s * 2, none⟩) (Nat.le_refl _) _).setCell (p := ⟨w.heap.size, s * 2 + 1, none⟩) (Nat.le_refl _) _⟩
                        have := (hB.set_ (s * 2) (.int .u32 (y : Int))).set_ (s * 2 + 1) (.int .i64 (c : Int))
                        rw [Hst.out] at this
                        exact this
                      case measure => simp [intOf]; omega
                    · have hcb : ((c : Int) == (N : Int)) = false := by simp; omega
                      have Hcn := Lib.hid (show lens m s ≠ N by rw [HL.out]; exact hcN)
                      clear hcN hcm
                      have Hsk := Lib.hid (at_skip (lens m) k N s Hcn.out)
                      have Hnk := Lib.hid (nxt_skip (lens m) k N s Hcn.out)
                      go_wp2_with fail
                      go_roundw
                      case rel => exact ⟨s + 1, by omega, by go_num, by rw [Hnk.out], by rw [Hsk.out.1, Hsk.out.2]; exact hB, hb⟩
                      case measure => simp [intOf]; omega
                  · obtain rfl : s = k := by omega
                    have Hrd := Lib.hid (cc_round (lens m) s N)
                    have Hnr := Lib.hid (nxt_round (lens m) s N)
                    go_wp2_with fail
                    go_roundw
                    case rel => exact ⟨N + 1, by omega, by omega, by go_num, by rw [Hnr.out], by rw [← Hrd.out]; exact hB, hb⟩
                    case measure => simp [intOf]; omega
              · obtain rfl : N = 16 := by omega
                have Hce := Lib.hid (cc_end (lens m) k (fun t ht => by have := Hok.out t ht; unfold lens; omega))
                go_wp2_with fail
                go_ret2
                exact ⟨hb, .inr (.inr (.inr ⟨by omega, Hok.out, by rw [Hp.out, Ht.out]; exact Hf.out, _, rfl, _, rfl, Nat.le_refl _, by rw [← Hce.out]; exact hB⟩))⟩
        · have hf2 : 32768 < p ∨ (p < 32768 ∧ t ≠ 0 ∧ t ≠ 1) ∨ (p < 32768 ∧ t = 1 ∧ p ≠ 16384) := by unfold Fits at hf; omega
          have Hf := Lib.hid hf
          clear hf
          rcases hf2 with hf2 | ⟨h1, h2, h3⟩ | ⟨h1, rfl, h3⟩
          · go_wp2_with fail
            go_ret2
            exact ⟨Below.refl _ _, .inr (.inr (.inl ⟨by omega, Hok.out, by rw [Hp.out, Ht.out]; exact Hf.out, rfl⟩))⟩
          · have e1 : ((t : Int) != 0) = true := by simp; omega
            have e2 : ((t : Int) != 1) = true := by simp; omega
            clear h2 h3
            obtain ⟨r, hr, hr0⟩ : ∃ r : Nat, 32768 - (p : Int) = (r : Int) ∧ 0 < r := ⟨32768 - p, by omega, by omega⟩
            rw [hr]
            clear hr h1
            go_wp2_with fail
            go_ret2
            exact ⟨Below.refl _ _, .inr (.inr (.inl ⟨by omega, Hok.out, by rw [Hp.out, Ht.out]; exact Hf.out, rfl⟩))⟩
          · obtain ⟨r, hr, hr0⟩ : ∃ r : Nat, 32768 - (p : Int) = (r : Int) ∧ 0 < r := ⟨32768 - p, by omega, by omega⟩
            have e1 : ((r : Int) != 16384) = true := by simp; omega
            rw [hr]
            clear hr h1 h3
            go_wp2_with fail
            go_ret2
            exact ⟨Below.refl _ _, .inr (.inr (.inl ⟨by omega, Hok.out, by rw [Hp.out, Ht.out]; exact Hf.out, rfl⟩))⟩
end Go.Proofs.Ytjnglahjngiofaa
namespace Go.Proofs.Ytjnglahjngiofaa
open Go.RowKit
set_option maxRecDepth 100000

/-- The branches' cells. -/
def tcells (N : Nat) (B : Nat → Nat → Int) : List Value := (List.range (N * 2)).map fun i => .int .i64 (B (i / 2) (i % 2))
theorem tcells_length (N : Nat) (B : Nat → Nat → Int) : (tcells N B).length = N * 2 := by simp [tcells]
theorem tcells_at (N : Nat) (B : Nat → Nat → Int) (i : Nat) (h : i < N * 2) : (tcells N B)[i]? = some (.int .i64 (B (i / 2) (i % 2))) := by simp [tcells, h]
theorem tcells_out (N : Nat) (B : Nat → Nat → Int) (i : Nat) (h : ¬ i < N * 2) : (tcells N B)[i]? = none := List.getElem?_eq_none (by rw [tcells_length]; omega)
theorem tcells_set (N : Nat) (B : Nat → Nat → Int) (a b : Nat) (v : Int) (ha : a < N) (hb : b < 2) : (tcells N B).set (a * 2 + b) (.int .i64 v) = tcells N (setB B a b v) := by
  apply List.ext_getElem?
  intro i
  rw [List.getElem?_set]
  by_cases hi : i < N * 2
  · rw [tcells_at _ _ _ hi, tcells_at _ _ _ hi, tcells_length]
    unfold setB
    by_cases e : a * 2 + b = i
    · rw [if_pos e, if_pos (by omega), if_pos ⟨by omega, by omega⟩]
    · rw [if_neg e, if_neg (fun h => e (by omega))]
  · rw [tcells_out _ _ _ hi, tcells_out _ _ _ hi, if_neg (by omega)]
theorem tcells_more (N : Nat) (B : Nat → Nat → Int) : tcells N B ++ [.int .i64 0, .int .i64 0] = tcells (N + 1) (addB B N) := by
  apply List.ext_getElem?
  intro i
  by_cases hi : i < N * 2
  · rw [List.getElem?_append_left (by rw [tcells_length]; exact hi), tcells_at _ _ _ hi, tcells_at _ _ _ (by omega)]
    unfold addB
    rw [if_neg (by omega)]
  · rw [List.getElem?_append_right (by rw [tcells_length]; omega), tcells_length]
    by_cases h1 : i < (N + 1) * 2
    · rw [tcells_at _ _ _ h1]
      unfold addB
      rw [if_pos (by omega)]
      have : i - N * 2 = 0 ∨ i - N * 2 = 1 := by omega
      rcases this with h | h <;> rw [h] <;> rfl
    · rw [tcells_out _ _ _ h1, List.getElem?_eq_none (by simp; omega)]
theorem info_pair2 : (Try.prog.info? 169).map (fun i => (i.zero, i.size, i.bytes)) = some (some (.agg #[.int .i64 0, .int .i64 0]), 2, 16) := by kernel_rfl
theorem pair_one : ∀ u ∈ ([.int .i64 0, .int .i64 0] : List Value), u.oneCell' = true := by
  intro u hu
  simp only [List.mem_cons, List.not_mem_nil, or_false] at hu
  rcases hu with rfl | rfl <;> rfl

/-- The tree at T, whose branches lie at g. -/
def TreeAt (w : World) (T g N cap : Nat) (B : Nat → Nat → Int) : Prop := Blk w T 167 #[.slice (some ⟨g, 0, none⟩) N cap] ∧ g < w.heap.size ∧ ∀ a b, a < N → b < 2 → w.cell? ⟨g, a * 2 + b, none⟩ = some (.int .i64 (B a b))
theorem TreeAt.below {w w' : World} {T g N cap H : Nat} {B : Nat → Nat → Int} (h : TreeAt w T g N cap B) (hb : Below H w w') (hT : T < H) (hg : g < H) : TreeAt w' T g N cap B :=
  ⟨h.1.below hb hT, Nat.lt_of_lt_of_le h.2.1 hb.size, fun a b ha hb2 => (hb.cell (p := ⟨g, a * 2 + b, none⟩) hg).trans (h.2.2 a b ha hb2)⟩
theorem TreeAt.grown {w w' : World} {T g N cap P : Nat} {B : Nat → Nat → Int} (h : TreeAt w T g N cap B) (hg : w.grownBy w' (some P)) (hT : T ≠ P) (hgP : g ≠ P) : TreeAt w' T g N cap B := by
  refine ⟨h.1.grown hg (fun e => hT (by injection e)), Nat.lt_of_lt_of_le h.2.1 hg.size, fun a b ha hb2 => ?_⟩
  have hb := hg.block g h.2.1 (fun e => hgP (by injection e))
  have e : ∀ o, w'.cell? ⟨g, o, none⟩ = w.cell? ⟨g, o, none⟩ := fun o => by unfold World.cell?; simp only [hb]
  exact (e _).trans (h.2.2 a b ha hb2)
theorem trow_blk {w : World} {b e s n P t : Nat} {v : Value} {x : List Value} {cs : Array Value} (h : w.ownsRow b e s v n x) (hB : Blk w P t cs) (hne : e ≠ t) : v.ownBlock = none ∨ v.ownBlock ≠ some P := by
  rcases h.2 with ⟨rfl, _⟩ | ⟨g, cap, cur, rfl, _, hh, _⟩
  · exact .inl rfl
  · right
    intro e'
    simp only [Value.ownBlock, Option.some.injEq] at e'
    subst e'
    unfold Blk at hB
    rw [hh] at hB
    simp only [Option.some.injEq, Obj.cells.injEq] at hB
    exact hne hB.2.1

/-- What Plant holds: the tree at T of the row (g, N, cap), all behind the world w1. -/
def PT (w1 W : World) (T g N cap : Nat) (B : Nat → Nat → Int) : Prop :=
  Blk W T 167 #[.slice (some ⟨g, 0, none⟩) N cap] ∧ W.ownsRow w1.heap.size 169 2 (.slice (some ⟨g, 0, none⟩) N cap) N (tcells N B) ∧ Below w1.heap.size w1 W ∧ w1.heap.size ≤ T
section
variable {w1 W W' : World} {T g N cap : Nat} {B : Nat → Nat → Int}
theorem PT.cell (h : PT w1 W T g N cap B) (a b : Nat) (ha : a < N) (hb : b < 2) : W.cell? ⟨g, a * 2 + b, none⟩ = some (.int .i64 (B a b)) := by
  rw [World.ownsRow.cellAt h.2.1 (a * 2 + b) (by omega), tcells_at _ _ _ (by omega), show (a * 2 + b) / 2 = a by omega, show (a * 2 + b) % 2 = b by omega]
theorem PT.frozen (h : PT w1 W T g N cap B) (j : Nat) : W.frozen? ⟨g, j, none⟩ = false := World.ownsRow.frozenAt h.2.1 j
theorem PT.ne (h : PT w1 W T g N cap B) : g ≠ T := by
  rcases trow_blk h.2.1 h.1 (by decide) with e | e
  · simp [Value.ownBlock] at e
  · exact fun e2 => e (by simp [Value.ownBlock, e2])
theorem PT.lt (h : PT w1 W T g N cap B) : w1.heap.size ≤ g ∧ g < W.heap.size := World.ownsRow.lt h.2.1 g (by simp [Value.ownBlock])
theorem PT.below (h : PT w1 W T g N cap B) (hb : Below W.heap.size W W') : PT w1 W' T g N cap B := by
  refine ⟨h.1.below hb h.1.lt, ?_, h.2.2.1.trans (hb.mono h.2.2.1.size), h.2.2.2⟩
  have hlt := World.ownsRow.lt h.2.1
  refine ⟨h.2.1.1, ?_⟩
  rcases h.2.1.2 with h2 | ⟨g, cap, cur, e, h3, h4, h5⟩
  · exact .inl h2
  · rw [e] at hlt ⊢
    exact .inr ⟨g, cap, cur, rfl, h3, (hb.block g (hlt g (by simp [Value.ownBlock])).2).trans h4, h5⟩
theorem PT.store (h : PT w1 W T g N cap B) (a b : Nat) (v : Int) (ha : a < N) (hb : b < 2) : PT w1 (W.setCell ⟨g, a * 2 + b, none⟩ (.int .i64 v)) T g N cap (setB B a b v) := by
  have hs := World.ownsRow.stored h.2.1 (a * 2 + b) (.int .i64 v)
  rw [tcells_set N B a b v ha hb] at hs
  refine ⟨h.1.grown hs.2 (fun e => h.ne (by injection e with e; exact e.symm)), hs.1, ?_, h.2.2.2⟩
  exact h.2.2.1.setCell h.lt.1 _
/-- Behind append and the store of the new row. -/
theorem PT.more {g' cap' : Nat} {W2 : World} (h : PT w1 W T g N cap B) (hown : W2.ownsRow w1.heap.size 169 2 (.slice (some ⟨g', 0, none⟩) (N + 1) cap') (N + 1) (tcells N B ++ [.int .i64 0, .int .i64 0])) (hg : W.grownBy W2 (some g)) : PT w1 (W2.setCell ⟨T, 0, none⟩ (.slice (some ⟨g', 0, none⟩) (N + 1) cap')) T g' (N + 1) cap' (addB B N) := by
  rw [tcells_more] at hown
  have hB2 := h.1.grown hg (fun e => h.ne (by injection e with e; exact e.symm))
  have hne : g' ≠ T := by
    rcases trow_blk hown hB2 (by decide) with e | e
    · simp [Value.ownBlock] at e
    · exact fun e2 => e (by simp [Value.ownBlock, e2])
  refine ⟨by simpa using hB2.set_ 0 (.slice (some ⟨g', 0, none⟩) (N + 1) cap'), ?_, ?_, h.2.2.2⟩
  · refine World.ownsRow.kept hown (row := some T) ⟨rfl, rfl, rfl, by simp [World.setCell], fun k _ hk => heap_setCell_other W2 ⟨T, 0, none⟩ k _ (fun e => hk (by simp [e]))⟩ (.inr ?_)
    simp [Value.ownBlock, hne]
  · have hb2 : Below w1.heap.size w1 W2 := h.2.2.1.grown hg h.2.2.1.size (fun k e => by injection e with e; rw [← e]; exact h.lt.1)
    exact hb2.setCell h.2.2.2 _
theorem PT.at (h : PT w1 W T g N cap B) : TreeAt W T g N cap B := ⟨h.1, h.lt.2, fun a b ha hb => h.cell a b ha hb⟩
end

theorem run_make_t (w : World) :
    (Instr.makeSlice 165 (.int .i64 1) (.int .i64 1)).run Try.prog w = .ok (.slice (some ⟨w.heap.size, 0, none⟩) 1 1) (w.alloc (.cells #[.int .i64 0, .int .i64 0] 169)) := by
  obtain ⟨i0, hi, hz0, hz1, hz2⟩ := info_parts info_pair2
  have hr := run_make (P := Try.prog) w 165 169 i0 _ Try.underlying165 hi hz0 .i64 .i64 1 1 (by omega) (by omega) (by rw [hz2]; omega) (by omega)
  rw [hz1] at hr
  have e : madeCells (Value.agg #[.int .i64 0, .int .i64 0]).cells (1 * 2) = #[.int .i64 0, .int .i64 0] := by
    have e0 : (Value.agg #[.int .i64 0, .int .i64 0]).cells = #[.int .i64 0, .int .i64 0] := rfl
    rw [e0]
    apply Array.ext_getElem?
    intro i
    by_cases hi : i < 2
    · unfold madeCells
      have h1 : (Array.range (1 * 2))[i]? = some i := by simp [Array.getElem?_range]; omega
      rw [Array.getElem?_map, h1]
      have : i = 0 ∨ i = 1 := by omega
      rcases this with rfl | rfl <;> rfl
    · rw [Array.getElem?_eq_none (by rw [size_madeCells]; omega), Array.getElem?_eq_none (by simp; omega)]
  simp only [Int.toNat_one, e] at hr
  exact hr
/-- The first tree. -/
theorem PT.start (w1 : World) : PT w1 ((w1.alloc (.cells #[.int .i64 0, .int .i64 0] 169)).alloc (.cells #[.slice (some ⟨w1.heap.size, 0, none⟩) 1 1] 167)) (w1.heap.size + 1) w1.heap.size 1 1 (fun _ _ => 0) := by
  have h1 := Blk.new (w1.alloc (.cells #[.int .i64 0, .int .i64 0] 169)) 167 #[.slice (some ⟨w1.heap.size, 0, none⟩) 1 1]
  have h2 := World.ownsRow_lit (base := w1.heap.size) (e := 169) (size := 2) w1 #[.int .i64 0, .int .i64 0] 1 (Nat.le_refl _) (by unfold maxLen; omega) rfl
  have hb := ((Below.refl w1.heap.size w1).alloc (Nat.le_refl _) (.cells #[.int .i64 0, .int .i64 0] 169))
  refine ⟨by simpa using h1, ?_, hb.alloc hb.size _, by omega⟩
  exact World.ownsRow.alloc h2 _
end Go.Proofs.Ytjnglahjngiofaa
namespace Go.Proofs.Ytjnglahjngiofaa
open Go.RowKit
set_option maxRecDepth 100000

def badT (k : Nat) : Ending := .returned (.tuple #[.pointer none, .int .i64 (k : Int)])
/-- The symbols that have codes. -/
def InAll (L : Nat → Nat) (n : Nat) (s : Nat) : Prop := s < n ∧ 0 < L s
/-- What Plant hands back. -/
def PlantPost (w : World) (n : Nat) (m : Nat → Int) (e : Ending) (w' : World) : Prop :=
  Below w.heap.size w w' ∧
  ((320 < n ∧ e = badT 2) ∨ (n ≤ 320 ∧ (∃ i, i < n ∧ ¬ (0 ≤ m i ∧ m i ≤ 15)) ∧ e = badT 1) ∨
   (n ≤ 320 ∧ (∀ i, i < n → 0 ≤ m i ∧ m i ≤ 15) ∧ ¬ Fits (parts (lens m) n) (someOf (lens m) n) ∧ e = badT 4) ∨
   (n ≤ 320 ∧ (∀ i, i < n → 0 ≤ m i ∧ m i ≤ 15) ∧ Fits (parts (lens m) n) (someOf (lens m) n) ∧ ∃ (T g N cap : Nat) (B : Nat → Nat → Int) (pv pn : Nat → Nat), e = .returned (.tuple #[.pointer (some ⟨T, 0, none⟩), .int .i64 0]) ∧
      w.heap.size ≤ T ∧ w.heap.size ≤ g ∧ TreeAt w' T g N cap B ∧ N ≤ 10000 ∧ Grown (bitsF (lens m) n) (lens m) (InAll (lens m) n) B N pv pn))

theorem free_pre (L : Nat → Nat) (n σ : Nat) (hσ : σ < n) (h0 : 0 < L σ) (h15 : ∀ i, i < n → L i ≤ 15) : ∀ s, (s < σ ∧ 0 < L s) → ¬ Ext (bitsF L n) L (bitsF L n s) (L s) σ := by
  rintro s ⟨h1, h2⟩ ⟨h3, h4⟩
  have ha : ahead L s σ = true := by
    unfold ahead
    rw [decide_eq_true h2, Bool.true_and]
    by_cases e : L s < L σ
    · rw [decide_eq_true e]; rfl
    · rw [decide_eq_true (show L s = L σ by omega), decide_eq_true h1]; simp
  have := code_apart L n s σ (by omega) ha (h15 σ hσ)
  unfold bitsF at h4
  rw [if_pos h2, if_pos h0] at h4
  exact this h4
theorem in_next (L : Nat → Nat) (k s : Nat) (h0 : 0 < L k) : ((s < k ∧ 0 < L s) ∨ s = k) ↔ (s < k + 1 ∧ 0 < L s) := by
  constructor
  · rintro (⟨h1, h2⟩ | rfl)
    · exact ⟨by omega, h2⟩
    · exact ⟨by omega, h0⟩
  · rintro ⟨h1, h2⟩
    by_cases e : s = k
    · exact .inr e
    · exact .inl ⟨by omega, h2⟩
theorem in_same (L : Nat → Nat) (k s : Nat) (h0 : L k = 0) : (s < k ∧ 0 < L s) ↔ (s < k + 1 ∧ 0 < L s) := by
  constructor
  · rintro ⟨h1, h2⟩
    exact ⟨by omega, h2⟩
  · rintro ⟨h1, h2⟩
    refine ⟨?_, h2⟩
    by_cases e : s = k
    · subst e; omega
    · omega

set_option maxHeartbeats 16000000 in
theorem plant_any (a : Option Addr) (n cap : Nat) (m : Nat → Int) (hn : n ≤ 1000000) (w : World) (hr : IRow w a n m) :
    Calls Try.prog 84 #[.slice a n cap] w (PlantPost w n m) := by
  have CC := Lib.hid (codes_any a n cap m hn w hr)
  clear hr
  go_enter Try.func84, Try.ntmps84
  go_wp2_with fail
  refine CC.out.mono ?_
  intro e w1 h
  obtain ⟨hb, ⟨h1, rfl⟩ | ⟨h1, h2, rfl⟩ | ⟨h1, h2, h3, rfl⟩ | ⟨h1, h2, h3, v, rfl, gc, rfl, hgc, hB⟩⟩ := h
  · have HB := Lib.hid hb
    clear hb
    unfold bad
    go_wp2_with fail
    go_ret2
    exact ⟨HB.out, .inl ⟨h1, rfl⟩⟩
  · have HB := Lib.hid hb
    have H2 := Lib.hid h2
    clear hb h2
    unfold bad
    go_wp2_with fail
    go_ret2
    exact ⟨HB.out, .inr (.inl ⟨h1, H2.out, rfl⟩)⟩
  · have HB := Lib.hid hb
    have H2 := Lib.hid h2
    have H3 := Lib.hid h3
    clear hb h2 h3
    unfold bad
    go_wp2_with fail
    go_ret2
    exact ⟨HB.out, .inr (.inr (.inl ⟨h1, H2.out, H3.out, rfl⟩))⟩
  · have HB := Lib.hid hb
    have H2 := Lib.hid h2
    have H3 := Lib.hid h3
    have HBc := Lib.hid hB
    obtain ⟨L, HL⟩ : ∃ L, Hid (lens m = L) := ⟨_, Lib.hid (Eq.refl _)⟩
    rw [HL.out] at HBc H3
    have HL15 : Hid (∀ i, i < n → L i ≤ 15) := fun i hi => by
      have := H2.out i hi
      rw [← HL.out]
      unfold lens
      omega
    obtain ⟨F, HF⟩ : ∃ F, Hid (bitsF L n = F) := ⟨_, Lib.hid (Eq.refl _)⟩
    rw [HF.out] at HBc
    have HFit : Hid (∀ i, i < n → 0 < L i → F i < 2 ^ L i) := fun i hi h0 => by
      rw [← HF.out]
      unfold bitsF
      rw [if_pos h0]
      exact code_fits L n i hi h0 (HL15.out i hi) H3.out.1
    have HPF : Hid (∀ σ, σ < n → 0 < L σ → ∀ s, (s < σ ∧ 0 < L s) → ¬ Ext F L (F s) (L s) σ) := fun σ h1 h2 => by
      have := free_pre L n σ h1 h2 HL15.out
      rw [HF.out] at this
      exact this
    have hmk := run_make_t w1
    have HPT0 := Lib.hid (PT.start w1)
    have HG0 : Hid (Grown F L (fun s => s < 0 ∧ 0 < L s) (fun _ _ => 0) 1 (fun _ => 0) (fun _ => 0)) := Grown.none F L _ (fun s h => by omega)
    have hgl := HBc.out.lt
    obtain ⟨q, Hq⟩ : ∃ q, Hid (w1.heap.size = q) := ⟨_, Lib.hid (Eq.refl _)⟩
    rw [Hq.out] at hgl
    clear hb h2 h3 hB CC
    go_wp2_with fail
    clear hmk
    obtain ⟨w2, HW2⟩ : ∃ W, Hid ((w1.alloc (.cells #[.int .i64 0, .int .i64 0] 169)).alloc (.cells #[.slice (some ⟨w1.heap.size, 0, none⟩) 1 1] 167) = W) := ⟨_, Lib.hid (Eq.refl _)⟩
    rw [HW2.out] at HPT0 ⊢
    rw [Hq.out] at HPT0 ⊢
    obtain ⟨T, HT⟩ : ∃ T, Hid (q + 1 = T) := ⟨_, Lib.hid (Eq.refl _)⟩
    rw [HT.out] at HPT0 ⊢
    clear HW2 HT
    go_loopw [25] (fun k_ wr => ∃ (k g N cap : Nat) (B : Nat → Nat → Int) (pv pn : Nat → Nat), k ≤ n ∧ k_ = .int .i64 (k : Int) ∧ N ≤ 1 + 15 * k ∧ Hid (PT w1 wr T g N cap B) ∧ Hid (Grown F L (fun s => s < k ∧ 0 < L s) B N pv pn)) (fun k _ => n - (intOf k).toNat)
    case atStart => exact ⟨0, q, 1, 1, _, _, _, by omega, rfl, by omega, HPT0, HG0⟩
    case round =>
      clear HPT0 HG0
      obtain ⟨k, g, N, cap1, B, pv, pn, hk, rfl, hN, HT, HG⟩ := hrel
      by_cases hlt : k < n
      · have d1 : decide ((k : Int) < (n : Int)) = true := by rw [decide_eq_true_eq]; omega
        have hBk := HBc.out.below HT.out.2.2.1 (by rw [Hq.out]; exact hgl)
        have c0 := hBk.cell (k * 2)
        rw [ccells_bits n F L k (k * 2) rfl hlt] at c0
        have c1 := hBk.cell (k * 2 + 1)
        rw [ccells_len n F L k (k * 2 + 1) rfl hlt] at c1
        obtain ⟨l, Hl⟩ : ∃ R, Hid (L k = R) := ⟨_, Lib.hid (Eq.refl _)⟩
        obtain ⟨f, Hf⟩ : ∃ R, Hid (F k = R) := ⟨_, Lib.hid (Eq.refl _)⟩
        have hl15 : l ≤ 15 := by rw [← Hl.out]; exact HL15.out k hlt
        rw [Hf.out] at c0
        rw [Hl.out] at c1
        obtain ⟨A, HA⟩ : ∃ R, Hid (wr.heap.size = R) := ⟨_, Lib.hid (Eq.refl _)⟩
        have hba := (Below.refl wr.heap.size wr).alloc (Nat.le_refl _) (.cells #[.int .u32 (f : Int), .int .i64 (l : Int)] 88)
        have HTA := Lib.hid (HT.out.below hba)
        have hBA := Blk.new wr 88 #[.int .u32 (f : Int), .int .i64 (l : Int)]
        rw [HA.out] at hBA
        have HBA := Lib.hid hBA
        clear hBk hba hBA HT
        by_cases hl0 : l = 0
        · subst hl0
          go_wp2_with fail
          rw [HA.out]
          obtain ⟨w5, HW5⟩ : ∃ W, Hid (wr.alloc (.cells #[.int .u32 (f : Int), .int .i64 ((0 : Nat) : Int)] 88) = W) := ⟨_, Lib.hid (Eq.refl _)⟩
          have HW5' : Hid (wr.alloc (.cells #[.int .u32 (f : Int), .int .i64 0] 88) = w5) := HW5.out
          rw [HW5.out] at HTA HBA
          rw [HW5'.out]
          clear HW5 HW5' c0 c1 HA
          go_loopw [9, 10] (fun at_ i_ wr => i_ = .int .i64 (-1) ∧ Hid (wr = w5)) (fun _ _ _ => 0)
          case atStart => exact ⟨rfl, rfl⟩
          case round =>
            obtain ⟨rfl, HW⟩ := hrel
            have HT6 : Hid (PT w1 wr T g N cap1 B) := by show PT _ _ _ _ _ _ _; rw [HW.out]; exact HTA.out
            clear HW HTA HBA
            go_wp2_with fail
            go_roundw
            case rel => exact ⟨k + 1, g, N, cap1, B, pv, pn, by omega, by go_num, by omega, HT6, HG.out.congr (fun s => in_same L k s Hl.out)⟩
            case measure => simp [intOf]; omega
        · have HM0 := Lib.hid (HG.out.start (σ := k) (by rw [Hl.out]; omega) (HFit.out k hlt (by rw [Hl.out]; omega)))
          have HPFk := Lib.hid (HPF.out k hlt (by rw [Hl.out]; omega))
          obtain ⟨i0, Hi0⟩ : ∃ R, Hid (l - 1 = R) := ⟨_, Lib.hid (Eq.refl _)⟩
          have hi0 : (l : Int) - 1 = (i0 : Int) := by have := Hi0.out; omega
          clear HG
          go_wp2_with fail
          rw [HA.out]
          obtain ⟨w5, HW5⟩ : ∃ W, Hid (wr.alloc (.cells #[.int .u32 (f : Int), .int .i64 (l : Int)] 88) = W) := ⟨_, Lib.hid (Eq.refl _)⟩
          rw [HW5.out] at HTA HBA ⊢
          clear HW5 c0 c1 HA hi0
          go_loopw [9, 10] (fun at_ i_ wr => ∃ (d i at' g N cap : Nat) (B : Nat → Nat → Int) (pv pn : Nat → Nat), Hid (d + i + 1 = l) ∧ i_ = .int .i64 (i : Int) ∧ at_ = .int .i64 (at' : Int) ∧ N ≤ 1 + 15 * k + d ∧ d ≤ 15 ∧ i ≤ 15 ∧ Hid (PT w1 wr T g N cap B) ∧
              Hid (Mid F L (fun s => s < k ∧ 0 < L s) k B N pv pn d at') ∧ Hid (Blk wr A 88 #[.int .u32 (f : Int), .int .i64 (l : Int)])) (fun _ i _ => (intOf i).toNat)
          case atStart => exact ⟨0, i0, 0, g, N, cap1, B, pv, pn, by show _ = _; have := Hi0.out; omega, rfl, rfl, by omega, by omega, by have := Hi0.out; omega, HTA, HM0, HBA⟩
          case round =>
            clear HTA HM0 HBA hN
            obtain ⟨d, i, at', g, N, cap1, B, pv, pn, Hd, rfl, rfl, hN, hd15, hi15, HT, HM, HBA⟩ := hrel
            have hat := HM.out.lt
            obtain ⟨b, Hb⟩ : ∃ R, Hid (nb F L k d = R) := ⟨_, Lib.hid (Eq.refl _)⟩
            have hb2 : b < 2 := by rw [← Hb.out]; exact nb_lt _ _ _ _
            obtain ⟨y, Hy⟩ : ∃ R, Hid (f / 2 ^ i = R) := ⟨_, Lib.hid (Eq.refl _)⟩
            have hy : (f : Int) / 2 ^ i = (y : Int) := by rw [← Hy.out]; simp
            have hfl : f < 4294967296 := by
              have := HFit.out k hlt (by rw [Hl.out]; omega)
              rw [Hf.out, Hl.out] at this
              exact Nat.lt_of_lt_of_le this (Nat.le_trans (Nat.pow_le_pow_right (by decide) hl15) (by decide))
            have hyl : y < 4294967296 := by rw [← Hy.out]; exact Nat.lt_of_le_of_lt (Nat.div_le_self _ _) hfl
            have hand : bits .and .u32 (y : Int) 1 = (b : Int) := by
              have h := u32_and_nat y 1 hyl (by decide)
              rw [Nat.and_one_is_mod] at h
              have e : y % 2 = b := by
                rw [← Hb.out, ← Hy.out]
                unfold nb
                rw [Hf.out, Hl.out, show l - d - 1 = i by have := Hd.out; omega]
              rw [e] at h
              exact h
            have mi : min i 32 = i := by omega
            obtain ⟨v, Hv⟩ : ∃ R, Hid (B at' b = R) := ⟨_, Lib.hid (Eq.refl _)⟩
            have cV := HT.out.cell at' b hat hb2
            rw [Hv.out] at cV
            have fV := HT.out.frozen (at' * 2 + b)
            have cT := HT.out.1.cell 0
            have cA := HBA.out.cell 0
            simp at cT cA
            have hbI : (b : Int) < 2 := by omega
            have hatI : (at' : Int) < (N : Int) := by omega
            have d2 : decide (0 ≤ (i : Int)) = true := by rw [decide_eq_true_eq]; omega
            go_wp2_with fail
            go_quiet (fail)
            have cV2 : (wr.drewN nq).cell? ⟨g, at' * 2 + b, none⟩ = some (.int .i64 v) := cV
            have fV2 : (wr.drewN nq).frozen? ⟨g, at' * 2 + b, none⟩ = false := fV
            have cT2 : (wr.drewN nq).cell? ⟨T, 0, none⟩ = some (.slice (some ⟨g, 0, none⟩) N cap1) := cT
            have HT2 := Lib.hid (HT.out.below (below_drewN (Below.refl _ _) nq))
            have HB2 := Lib.hid (show Blk (wr.drewN nq) A 88 #[.int .u32 (f : Int), .int .i64 (l : Int)] from HBA.out)
            clear cV fV cT cA HT HBA hand hy mi
            obtain ⟨w6, HW6⟩ : ∃ W, Hid (wr.drewN nq = W) := ⟨_, Lib.hid (Eq.refl _)⟩
            rw [HW6.out] at cV2 fV2 cT2 HT2 HB2 ⊢
            clear HW6
            by_cases hi0 : i = 0
            · subst hi0
              have hdl : d + 1 = L k := by rw [Hl.out]; have := Hd.out; omega
              have HGn := Lib.hid ((HM.out.leaf hdl).congr (fun s => in_next L k s (by rw [Hl.out]; have := Hd.out; omega)))
              have HT7 := Lib.hid (HT2.out.store at' b (-1 - (k : Int)) hat hb2)
              rw [Hb.out] at HGn
              clear hdl HM cT2 HB2 HT2
              go_wp2_with fail
              go_roundw
              case rel => exact ⟨k + 1, g, N, cap1, _, pv, pn, by omega, by go_num, by omega, HT7, HGn⟩
              case measure => simp [intOf]; omega
            · have hdl : d + 1 < L k := by rw [Hl.out]; have := Hd.out; omega
              have hi1 : (i : Int) - 1 = ((i - 1 : Nat) : Int) := by omega
              have diI : ((i : Int) == 0) = false := by simpa using hi0
              obtain ⟨i1, Hi1⟩ : ∃ R, Hid (i - 1 = R) := ⟨_, Lib.hid (Eq.refl _)⟩
              rw [Hi1.out] at hi1
              have hd1 : Hid (d + 1 + i1 + 1 = l) := by show _ = _; have := Hd.out; have := Hi1.out; omega
              have hi1l : i1 < i := by have := Hi1.out; omega
              rcases HM.out.way HPFk.out with hw | ⟨j, hw, hj0, hjN, hjp, hjn, hjx⟩
              · have hMf := HM.out.fresh hdl (by rw [hw])
                rw [Hb.out] at hw hMf
                obtain rfl : v = 0 := by rw [← Hv.out]; exact hw
                have HMf := Lib.hid hMf
                have HT7 := Lib.hid (HT2.out.store at' b (N : Int) hat hb2)
                have HB7 := Lib.hid (HB2.out.far (p := ⟨g, at' * 2 + b, none⟩) (by
                  rcases trow_blk HT2.out.2.1 HB2.out (by decide) with e | e
                  · simp [Value.ownBlock] at e
                  · exact fun e2 => e (by simp [Value.ownBlock, e2])) (.int .i64 (N : Int)))
                clear hMf hw hdl HM
                go_upto_region 17 with (fail)
                obtain ⟨w7, HW7⟩ : ∃ W, Hid (w6.setCell ⟨g, at' * 2 + b, none⟩ (.int .i64 (N : Int)) = W) := ⟨_, Lib.hid (Eq.refl _)⟩
                rw [HW7.out] at HT7 HB7 ⊢
                clear HW7 cV2 fV2 cT2 HT2 HB2
                have cT7 := HT7.out.1.cell 0
                have fT7 := HT7.out.1.frozen 0
                simp at cT7
                have hos := HT7.out.2.1
                have hbsw : w1.heap.size ≤ w7.heap.size := HT7.out.2.2.1.size
                have hBT7 := Lib.hid HT7.out.1
                have hgTne := Lib.hid HT7.out.ne
                go_wp2_with (first
                  | (at_builtin; go_must (refine wpList_append_elem w7 rfl (.tmp 70) (.tmp 72) rfl Try.underlying165 info_pair2 rfl (by decide) w1.heap.size _ N (tcells N (setB B at' b (N : Int))) [.int .i64 0, .int .i64 0] hos rfl pair_one rfl rfl rfl ?_ ?_ hbsw ?_; (unfold maxLen; omega); omega; intro v2 w8 hown8 hg8; obtain ⟨g2, cap2, rfl, _⟩ := World.ownsRow.form hown8 (Nat.succ_pos _); have hT8 := hBT7.out.grown hg8 (fun e => hgTne.out (by simp [Value.ownBlock] at e; exact e.symm)); have cT8 := hT8.cell 0; have fT8 := hT8.frozen 0; simp at cT8; have HO8 := Lib.hid hown8; have HG8 := Lib.hid hg8; clear hown8 hg8 hT8))
                  | fail)
                have HT9 := Lib.hid (HT7.out.more HO8.out HG8.out)
                have HB9 := Lib.hid ((HB7.out.grown HG8.out (fun e => by
                  rcases trow_blk HT7.out.2.1 HB7.out (by decide) with e2 | e2
                  · simp [Value.ownBlock] at e2
                  · exact e2 e.symm)).far (p := ⟨T, 0, none⟩) (fun e => by
                    have e3 : A = T := e
                    have h1 := HB7.out
                    have h2 := HT7.out.1
                    rw [e3] at h1
                    unfold Blk at h1 h2
                    rw [h1] at h2
                    simp at h2) (.slice (some ⟨g2, 0, none⟩) (N + 1) cap2))
                go_roundw
                case rel => exact ⟨d + 1, i1, N, g2, N + 1, cap2, _, _, _, hd1, by go_num, by go_num, by omega, by have := hd1.out; omega, by omega, HT9, HMf, HB9⟩
                case measure => simp [intOf]; omega
              · rw [Hb.out] at hw
                have HMd := Lib.hid (HM.out.down hdl (by rw [Hb.out]; exact hw) hj0 hjN hjp hjn hjx)
                obtain rfl : v = (j : Int) := by rw [← Hv.out]; exact hw
                have dj : ((j : Int) == 0) = false := by simp; omega
                clear hw hjx hjp hjn hdl HM
                go_wp2_with fail
                go_roundw
                case rel => exact ⟨d + 1, i1, j, g, N, cap1, B, pv, pn, hd1, by go_num, by go_num, by omega, by have := hd1.out; omega, by omega, HT2, HMd, HB2⟩
                case measure => simp [intOf]; omega
      · obtain rfl : k = n := by omega
        have d1 : decide ((k : Int) < (k : Int)) = false := by rw [decide_eq_false_iff_not]; omega
        go_wp2_with fail
        go_ret2
        refine ⟨HB.out.trans (HT.out.2.2.1.mono HB.out.size), .inr (.inr (.inr ⟨h1, H2.out, by rw [HL.out]; exact H3.out, T, g, N, cap1, B, pv, pn, rfl, Nat.le_trans HB.out.size HT.out.2.2.2, Nat.le_trans HB.out.size HT.out.lt.1, HT.out.at, by omega, ?_⟩))⟩
        rw [HL.out, HF.out]
        exact HG.out
end Go.Proofs.Ytjnglahjngiofaa
namespace Go.Proofs.Ytjnglahjngiofaa
open Go.RowKit
set_option maxRecDepth 100000

theorem SrcAt.grown {w w' : World} {P p : Nat} {s : ByteArray} {row : Option Nat} (h : SrcAt w P s p) (hg : w.grownBy w' row) (hne : some P ≠ row) : SrcAt w' P s p := Blk.grown h hg hne
theorem SrcAt.below {w w' : World} {P p B : Nat} {s : ByteArray} (h : SrcAt w P s p) (hb : Below B w w') (hP : P < B) : SrcAt w' P s p := Blk.below h hb hP
theorem SrcAt.lt {w : World} {P p : Nat} {s : ByteArray} (h : SrcAt w P s p) : P < w.heap.size := Blk.lt h
/-- Take with its answer told. -/
theorem take_at (P : Nat) (s : ByteArray) (p k x p2 : Nat) (hk : k ≤ 32) (hx : bitsAt s p k = x) (hp2 : p + k = p2) (hs : s.size ≤ 100000000) (hp : p ≤ 1000000000) (w : World) (hS : SrcAt w P s p) :
    Calls Try.prog 68 #[.pointer (some ⟨P, 0, none⟩), .int .i64 (k : Int)] w fun e w' => e = .returned (.int .u32 (x : Int)) ∧ SrcAt w' P s p2 ∧ w.grownBy w' (some P) ∧ w'.heap.size = w.heap.size := by
  rw [← hx, ← hp2]
  exact srcTake_any P s p k (k : Int) (.inr (.inl ⟨rfl, hk⟩)) hs hp w hS
theorem below_row {w0 w w' : World} {P : Nat} (h : Below w0.heap.size w0 w) (hg : w.grownBy w' (some P)) (hP : w0.heap.size ≤ P) : Below w0.heap.size w0 w' :=
  ⟨hg.os.trans h.os, hg.tape.trans h.tape, hg.output.trans h.output, Nat.le_trans h.size hg.size, fun g hgl =>
    (hg.block g (Nat.lt_of_lt_of_le hgl h.size) (fun e => by injection e with e; omega)).trans (h.block g hgl)⟩
end Go.Proofs.Ytjnglahjngiofaa
namespace Go.Proofs.Ytjnglahjngiofaa
open Go.RowKit
set_option maxRecDepth 100000

/-- What is read at bit p of nb bits, behind which X stands: the symbol, the error's number, how many bits were taken. -/
def NextOut (F L : Nat → Nat) (In : Nat → Prop) (X nbits p sym err taken : Nat) : Prop :=
  1 ≤ taken ∧ (∀ m, 1 ≤ m → m < taken → p + m ≤ nbits ∧ ∃ s, In s ∧ Ext F L (rev X m) m s ∧ m < L s) ∧
  ((nbits < p + taken ∧ err = 6 ∧ sym = 0) ∨ (p + taken ≤ nbits ∧ (∀ s, In s → ¬ Ext F L (rev X taken) taken s) ∧ err = 3 ∧ sym = 0) ∨
   (p + taken ≤ nbits ∧ In sym ∧ L sym = taken ∧ F sym = rev X taken ∧ err = 0))
theorem one_bit (s : ByteArray) (p d : Nat) : bitsAt s (p + d) 1 = num s / 2 ^ p / 2 ^ d % 2 := by
  unfold bitsAt
  rw [Nat.div_div_eq_div_mul, ← Nat.pow_add]
theorem rev_next (X d : Nat) : rev X (d + 1) = 2 * rev X d + X / 2 ^ d % 2 := rfl

set_option maxHeartbeats 8000000 in
theorem next_any (F L : Nat → Nat) (In : Nat → Prop) (T g N cap : Nat) (B : Nat → Nat → Int) (pv pn : Nat → Nat) (hG : Grown F L In B N pv pn) (hL : ∀ s, In s → L s ≤ 15) (hIn : ∀ s, In s → s < 1000)
    (P : Nat) (s : ByteArray) (p : Nat) (hs : s.size ≤ 100000) (hp : p ≤ 1000000) (hPT : T ≠ P) (hPg : g ≠ P) (w : World) (hT : TreeAt w T g N cap B) (hS : SrcAt w P s p) :
    Calls Try.prog 85 #[.pointer (some ⟨T, 0, none⟩), .pointer (some ⟨P, 0, none⟩)] w fun e w' =>
      ∃ sym err taken : Nat, e = .returned (.tuple #[.int .i64 (sym : Int), .int .i64 (err : Int)]) ∧ NextOut F L In (num s / 2 ^ p) (8 * s.size) p sym err taken ∧ taken ≤ 16 ∧ SrcAt w' P s (p + taken) ∧ w.grownBy w' (some P) ∧ w'.heap.size = w.heap.size := by
  have HG := Lib.hid hG
  have HL := Lib.hid hL
  have HI := Lib.hid hIn
  have HS := Lib.hid hS
  have HT := Lib.hid hT
  have HPT := Lib.hid hPT
  have HPg := Lib.hid hPg
  have Hgr : Hid (w.grownBy w (some P)) := ⟨rfl, rfl, rfl, Nat.le_refl _, fun _ _ _ => rfl⟩
  obtain ⟨X, HX⟩ : ∃ X, Hid (num s / 2 ^ p = X) := ⟨_, Lib.hid (Eq.refl _)⟩
  rw [HX.out]
  clear hG hL hIn hS hT hPT hPg
  go_enter Try.func85, Try.ntmps85
  go_wp2_with fail
  go_loopw [6] (fun at_ wr => ∃ a d : Nat, a < N ∧ d ≤ 15 ∧ at_ = .int .i64 (a : Int) ∧ Hid (pn a = d) ∧ Hid (pv a = rev X d) ∧ Hid (∀ m, 1 ≤ m → m < d + 1 → p + m ≤ 8 * s.size ∧ ∃ σ, In σ ∧ Ext F L (rev X m) m σ ∧ m < L σ) ∧
      Hid (SrcAt wr P s (p + d)) ∧ Hid (TreeAt wr T g N cap B) ∧ Hid (w.grownBy wr (some P)) ∧ Hid (wr.heap.size = w.heap.size)) (fun _ wr => p + 16 - cellNat wr ⟨P, 1, none⟩)
  case atStart => exact ⟨0, 0, HG.out.pos, by omega, rfl, HG.out.root.2, HG.out.root.1, (fun m h1 h2 => by omega), HS, HT, Hgr, rfl⟩
  case round =>
    clear HS HT Hgr
    obtain ⟨a, d, ha, hd15, rfl, Hpn, Hpv, Hpre, HS, HT, Hgr, Hsz⟩ := hrel
    obtain ⟨b, Hb⟩ : ∃ b, Hid (bitsAt s (p + d) 1 = b) := ⟨_, Lib.hid (Eq.refl _)⟩
    have hb2 : b < 2 := by rw [← Hb.out, one_bit]; exact Nat.mod_lt _ (by decide)
    have Hnx : Hid (rev X (d + 1) = 2 * pv a + b) := by
      show _ = _
      rw [rev_next, ← Hpv.out, ← Hb.out, one_bit, HX.out]
    obtain ⟨v, Hv⟩ : ∃ v, Hid (B a b = v) := ⟨_, Lib.hid (Eq.refl _)⟩
    obtain ⟨p2, Hp2⟩ : ∃ v, Hid (p + d + 1 = v) := ⟨_, Lib.hid (Eq.refl _)⟩
    have hp2 : p2 ≤ 2000000 := by have := Hp2.out; omega
    have CT := Lib.hid (fun W h => take_at P s (p + d) 1 b p2 (by decide) Hb.out Hp2.out (by omega) (by omega) W h)
    have hSd : Hid (SrcAt wr.drew P s (p + d)) := HS.out
    have hTd : Hid (TreeAt wr.drew T g N cap B) := HT.out
    have hgd : Hid (w.grownBy wr.drew (some P)) := ⟨Hgr.out.os, Hgr.out.tape, Hgr.out.output, Hgr.out.size, Hgr.out.block⟩
    have cm := cellNat_of (n := p + d) (by simpa using Blk.cell HS.out 1)
    have Hcm := Lib.hid cm
    have ct := hTd.out.1.cell 0
    have cv := hTd.out.2.2 a b ha hb2
    rw [Hv.out] at cv
    simp at ct
    have haI : (a : Int) < (N : Int) := by omega
    have hbI : (b : Int) < 2 := by omega
    clear HS HT Hgr cm
    go_wp2_with fail
    go_region_held3 (fun W => W.cell? ⟨T, 0, none⟩ = some (.slice (some ⟨g, 0, none⟩) N cap) ∧ W.cell? ⟨g, a * 2 + b, none⟩ = some (.int .i64 v))
      (first | exact ⟨by assumption, by assumption⟩ | go_keep)
      (first
        | (go_at_call 68; refine (CT.out _ hSd.out).mono ?_; rintro e w6 ⟨rfl, hS6, hg6, hz6⟩; have hT6 := hTd.out.grown hg6 HPT.out HPg.out; have q1 := hT6.1.cell 0; have q2 := hT6.2.2 a b ha hb2; simp at q1; rw [Hv.out] at q2))
    have HS6 := Lib.hid hS6
    have HT6 := Lib.hid hT6
    have Hg6 := Lib.hid (grownBy_trans hgd.out hg6)
    have Hz6 : Hid (w6.heap.size = w.heap.size) := hz6.trans Hsz.out
    obtain ⟨S2, HS2⟩ : ∃ b, Hid (decide (8 * s.size < p2) = b) := ⟨_, Lib.hid (Eq.refl _)⟩
    have CS := srcShort_any P s p2 (by omega) w6 HS6.out
    rw [HS2.out] at CS
    have HCS := Lib.hid CS
    have hc := HG.out.cells a ha b hb2
    have Hc := Lib.hid hc
    have e1 : p + (d + 1) = p2 := Hp2.out
    have Hn := Hnx.out
    rename_i hh
    clear hh hS6 hT6 hg6 hz6 CS hc q1 q2 cv ct haI hbI hSd hTd hgd CT Hsz
    go_wp2_with fail
    refine HCS.out.mono ?_
    rintro e w7 ⟨rfl, nq, rfl⟩
    have HS7 : Hid (SrcAt (w6.drewN nq) P s p2) := HS6.out
    have HT7 : Hid (TreeAt (w6.drewN nq) T g N cap B) := HT6.out
    have Hg7 : Hid (w.grownBy (w6.drewN nq) (some P)) := ⟨Hg6.out.os, Hg6.out.tape, Hg6.out.output, Hg6.out.size, Hg6.out.block⟩
    have Hz7 : Hid ((w6.drewN nq).heap.size = w.heap.size) := Hz6.out
    have Hn1 := Lib.hid Hn
    have He1 := Lib.hid e1
    clear HCS HS6 HT6 Hg6 Hz6 Hn e1
    cases S2 with
    | true =>
      have hsh : 8 * s.size < p2 := by simpa using HS2.out
      go_wp2_with fail
      go_ret2
      exact ⟨0, 6, d + 1, rfl, ⟨by omega, Hpre.out, .inl ⟨by rw [He1.out]; exact hsh, rfl, rfl⟩⟩, by omega, by rw [He1.out]; exact HS7.out, Hg7.out, Hz7.out⟩
    | false =>
      have hsh : p2 ≤ 8 * s.size := by have := of_decide_eq_false HS2.out; omega
      rcases Hc.out with ⟨h1, h2⟩ | ⟨j, h1, h2, h3, h4, h5, h6⟩ | ⟨σ, h1, h2, h3, h4⟩
      · obtain rfl : v = 0 := by rw [← Hv.out]; exact h1
        have H2 := Lib.hid h2
        clear h1 h2
        go_wp2_with fail
        go_ret2
        refine ⟨0, 3, d + 1, rfl, ⟨by omega, Hpre.out, .inr (.inl ⟨by rw [He1.out]; exact hsh, ?_, rfl, rfl⟩)⟩, by omega, by rw [He1.out]; exact HS7.out, Hg7.out, Hz7.out⟩
        intro σ hσ
        have := H2.out σ hσ
        rw [Hpn.out, ← Hn1.out] at this
        exact this
      · obtain rfl : v = (j : Int) := by rw [← Hv.out]; exact h1
        have H6 := Lib.hid h6
        have H4 := Lib.hid h4
        have H5 := Lib.hid h5
        have dj : ((j : Int) == 0) = false := by simp; omega
        have dj2 : decide ((j : Int) < 0) = false := by rw [decide_eq_false_iff_not]; omega
        have hd14 : d + 1 ≤ 15 := by
          obtain ⟨σ, h7, h8, h9⟩ := h6
          have := HL.out σ h7
          rw [Hpn.out] at h9
          omega
        have Hpre2 : Hid (∀ m, 1 ≤ m → m < d + 1 + 1 → p + m ≤ 8 * s.size ∧ ∃ σ, In σ ∧ Ext F L (rev X m) m σ ∧ m < L σ) := by
          intro m h7 h8
          by_cases e : m = d + 1
          · subst e
            refine ⟨by rw [He1.out]; exact hsh, ?_⟩
            obtain ⟨σ, h9, h10, h11⟩ := H6.out
            rw [Hpn.out, ← Hn1.out] at h10
            rw [Hpn.out] at h11
            exact ⟨σ, h9, h10, h11⟩
          · exact Hpre.out m h7 (by omega)
        clear h1 h4 h5 h6
        go_wp2_with fail
        go_roundw
        case rel => exact ⟨j, d + 1, h3, hd14, rfl, (by show _ = _; rw [H5.out, Hpn.out]), (by show _ = _; rw [H4.out]; exact Hn1.out.symm), Hpre2, (by show SrcAt _ _ _ _; rw [He1.out]; exact HS7.out), HT7, Hg7, Hz7⟩
        case measure =>
          have cm : cellNat (w6.drewN nq) ⟨P, 1, none⟩ = p2 := cellNat_of ((Blk.cell HS7.out 1).trans rfl)
          rw [cm, Hcm.out]
          have := Hp2.out
          omega
      · obtain rfl : v = -1 - (σ : Int) := by rw [← Hv.out]; exact h1
        have hσ := HI.out σ h2
        have dj : ((-1 - (σ : Int)) == 0) = false := by simp; omega
        have dj2 : decide (-1 - (σ : Int) < 0) = true := by rw [decide_eq_true_eq]; omega
        have e2 : -1 - (-1 - (σ : Int)) = (σ : Int) := by omega
        have H2 := Lib.hid h2
        have H3 := Lib.hid h3
        have H4 := Lib.hid h4
        clear h1 h2 h3 h4
        go_wp2_with fail
        go_ret2
        exact ⟨σ, 0, d + 1, rfl, ⟨by omega, Hpre.out, .inr (.inr ⟨by rw [He1.out]; exact hsh, H2.out, by rw [H3.out, Hpn.out], by rw [H4.out]; exact Hn1.out.symm, rfl⟩)⟩, by omega, by rw [He1.out]; exact HS7.out, Hg7.out, Hz7.out⟩
end Go.Proofs.Ytjnglahjngiofaa
namespace Go.Proofs.Ytjnglahjngiofaa
open Go.RowKit
set_option maxRecDepth 100000

/-- At R lies a reader of the source at P, that has read p bits of s and told z bytes; at most so many; its error's number. -/
def RdAt (w : World) (R P : Nat) (s : ByteArray) (p z most e : Nat) : Prop :=
  Blk w R 100 #[.pointer (some ⟨P, 0, none⟩), .int .i64 (z : Int), .int .i64 (most : Int), .int .i64 (e : Int)] ∧ SrcAt w P s p ∧ R ≠ P
/-- Nothing old but R and P has changed. -/
def Rch (R P : Nat) (w w' : World) : Prop :=
  w'.os = w.os ∧ w'.tape = w.tape ∧ w'.output = w.output ∧ w.heap.size ≤ w'.heap.size ∧ ∀ g, g < w.heap.size → g ≠ R → g ≠ P → w'.heap[g]? = w.heap[g]?
section
variable {R P : Nat} {w w1 w2 : World}
theorem Rch.refl (w : World) : Rch R P w w := ⟨rfl, rfl, rfl, Nat.le_refl _, fun _ _ _ _ => rfl⟩
theorem Rch.trans (h : Rch R P w w1) (k : Rch R P w1 w2) : Rch R P w w2 :=
  ⟨k.1.trans h.1, k.2.1.trans h.2.1, k.2.2.1.trans h.2.2.1, Nat.le_trans h.2.2.2.1 k.2.2.2.1, fun g hg h1 h2 => (k.2.2.2.2 g (Nat.lt_of_lt_of_le hg h.2.2.2.1) h1 h2).trans (h.2.2.2.2 g hg h1 h2)⟩
theorem Rch.row (h : w.grownBy w1 (some P)) : Rch R P w w1 := ⟨h.os, h.tape, h.output, h.size, fun g hg _ h2 => h.block g hg (fun e => h2 (by injection e))⟩
theorem Rch.drewN (n : Nat) : Rch R P w (w.drewN n) := ⟨rfl, rfl, rfl, Nat.le_refl _, fun _ _ _ _ => rfl⟩
theorem Rch.set_ (i : Nat) (v : Value) : Rch R P w (w.setCell ⟨R, i, none⟩ v) := ⟨rfl, rfl, rfl, by simp [World.setCell], fun g _ h1 _ => heap_setCell_other w _ _ _ (fun e => h1 (by rw [e]))⟩
theorem Rch.old (h : Rch R P w w1) {B : Nat} {w0 : World} (hb : Below B w0 w) (h1 : B ≤ w.heap.size) (hR : B ≤ R) (hP : B ≤ P) : Below B w0 w1 :=
  ⟨h.1.trans hb.os, h.2.1.trans hb.tape, h.2.2.1.trans hb.output, Nat.le_trans hb.size h.2.2.2.1, fun g hg => (h.2.2.2.2 g (by omega) (by omega) (by omega)).trans (hb.block g hg)⟩
theorem Rch.below {B : Nat} (h : Below B w w1) (hB : w.heap.size ≤ B) : Rch R P w w1 := ⟨h.os, h.tape, h.output, h.size, fun g hg _ _ => h.block g (by omega)⟩
theorem Rch.blk (h : Rch R P w w1) {g t : Nat} {cs : Array Value} (hb : Blk w g t cs) (h1 : g ≠ R) (h2 : g ≠ P) : Blk w1 g t cs := (h.2.2.2.2 g hb.lt h1 h2).trans hb
end
section
variable {w w1 : World} {R P p z most e : Nat} {s : ByteArray}
theorem RdAt.drewN (h : RdAt w R P s p z most e) (n : Nat) : RdAt (w.drewN n) R P s p z most e := h
theorem RdAt.below {B : Nat} (h : RdAt w R P s p z most e) (hb : Below B w w1) (hR : R < B) (hP : P < B) : RdAt w1 R P s p z most e := ⟨h.1.below hb hR, h.2.1.below hb hP, h.2.2⟩
theorem RdAt.keep (h : RdAt w R P s p z most e) (hb : Below w.heap.size w w1) : RdAt w1 R P s p z most e := h.below hb h.1.lt h.2.1.lt
theorem RdAt.read (h : RdAt w R P s p z most e) {p' : Nat} (hS : SrcAt w1 P s p') (hg : w.grownBy w1 (some P)) : RdAt w1 R P s p' z most e := ⟨h.1.grown hg (fun e => h.2.2 (by injection e)), hS, h.2.2⟩
theorem RdAt.err (h : RdAt w R P s p z most e) (x : Nat) : RdAt (w.setCell ⟨R, 3, none⟩ (.int .i64 (x : Int))) R P s p z most x := by
  refine ⟨?_, Blk.far h.2.1 (Ne.symm h.2.2) _, h.2.2⟩
  have := h.1.set_ 3 (.int .i64 (x : Int))
  simpa using this
theorem RdAt.size (h : RdAt w R P s p z most e) (x : Nat) : RdAt (w.setCell ⟨R, 1, none⟩ (.int .i64 (x : Int))) R P s p x most e := by
  refine ⟨?_, Blk.far h.2.1 (Ne.symm h.2.2) _, h.2.2⟩
  have := h.1.set_ 1 (.int .i64 (x : Int))
  simpa using this
end
/-- The first error counts. -/
def firstE (e x : Nat) : Nat := if e = 0 then x else e

theorem fail_any (R P : Nat) (s : ByteArray) (p z most e x : Nat) (w : World) (hR : RdAt w R P s p z most e) :
    Calls Try.prog 51 #[.pointer (some ⟨R, 0, none⟩), .int .i64 (x : Int)] w fun r w' => r = .returned (.tuple #[]) ∧ RdAt w' R P s p z most (firstE e x) ∧ Rch R P w w' := by
  have c3 := hR.1.cell 3
  have f3 := hR.1.frozen 3
  simp at c3
  unfold firstE
  by_cases h0 : e = 0
  · have d0 : ((e : Int) == 0) = true := by simp; omega
    have HR := Lib.hid (hR.err x)
    have HC : Hid (Rch R P w (w.setCell ⟨R, 3, none⟩ (.int .i64 (x : Int)))) := Rch.set_ 3 _
    rw [if_pos h0]
    clear hR h0
    go_enter Try.func51, Try.ntmps51
    go_wp2_with fail
    (try simp only [Exit.inBlock, Exit.then]); refine bodyPost_end (results_none rfl _ _ _) rfl ?_
    exact ⟨rfl, HR.out, HC.out⟩
  · have d0 : ((e : Int) == 0) = false := by simp; omega
    have HR := Lib.hid hR
    rw [if_neg h0]
    clear hR h0
    go_enter Try.func51, Try.ntmps51
    go_wp2_with fail
    (try simp only [Exit.inBlock, Exit.then]); refine bodyPost_end (results_none rfl _ _ _) rfl ?_
    exact ⟨rfl, HR.out, Rch.refl _⟩

theorem bitsAt_lt (s : ByteArray) (p k : Nat) (hk : k ≤ 16) : bitsAt s p k < 65536 := by
  unfold bitsAt
  have h1 : num s / 2 ^ p % 2 ^ k < 2 ^ k := Nat.mod_lt _ (Nat.two_pow_pos k)
  have h2 : 2 ^ k ≤ 2 ^ 16 := Nat.pow_le_pow_right (by decide) hk
  have h3 : (2 : Nat) ^ 16 = 65536 := by decide
  omega

/-- The error behind k bits at p. -/
def bitsE (s : ByteArray) (p k e : Nat) : Nat := if 8 * s.size < p + k then firstE e 6 else e

theorem bits_any (R P : Nat) (s : ByteArray) (p z most e k : Nat) (hk : k ≤ 16) (hs : s.size ≤ 100000) (hp : p ≤ 1000000) (w : World) (hR : RdAt w R P s p z most e) :
    Calls Try.prog 47 #[.pointer (some ⟨R, 0, none⟩), .int .i64 (k : Int)] w fun r w' => r = .returned (.int .i64 (bitsAt s p k : Int)) ∧ RdAt w' R P s (p + k) z most (bitsE s p k e) ∧ Rch R P w w' := by
  have c0 := hR.1.cell 0
  simp at c0
  have CT := Lib.hid (srcTake_any P s p k (k : Int) (.inr (.inl ⟨rfl, by omega⟩)) (by omega) (by omega) w hR.2.1)
  have hlt := bitsAt_lt s p k hk
  obtain ⟨v, Hv⟩ : ∃ v, Hid (bitsAt s p k = v) := ⟨_, Lib.hid (Eq.refl _)⟩
  rw [Hv.out] at CT hlt ⊢
  have hw : IntKind.i64.wrap (v : Int) = (v : Int) := IntWalk.i64_in _ (by omega)
  have HR := Lib.hid hR
  obtain ⟨E, HE⟩ : ∃ E, Hid (bitsE s p k e = E) := ⟨_, Lib.hid (Eq.refl _)⟩
  rw [HE.out]
  clear hR
  go_enter Try.func47, Try.ntmps47
  go_wp2_with fail
  refine CT.out.mono ?_
  rintro r w1 ⟨rfl, hS1, hg1, _⟩
  have HR1 := Lib.hid (HR.out.read hS1 hg1)
  have HC1 : Hid (Rch R P w w1) := Rch.row hg1
  have c1 := HR1.out.1.cell 0
  simp at c1
  have CS := srcShort_any P s (p + k) (by omega) w1 HR1.out.2.1
  obtain ⟨b, Hb⟩ : ∃ b, Hid (decide (8 * s.size < p + k) = b) := ⟨_, Lib.hid (Eq.refl _)⟩
  rw [Hb.out] at CS
  have HCS := Lib.hid CS
  clear CS hS1 hg1 c0
  go_wp2_with fail
  refine HCS.out.mono ?_
  rintro r w2 ⟨rfl, n, rfl⟩
  have HR2 := Lib.hid (HR1.out.drewN n)
  have HC2 : Hid (Rch R P w (w1.drewN n)) := HC1.out.trans (Rch.drewN n)
  clear HCS HR1 HC1 c1
  cases b with
  | true =>
    have hb : 8 * s.size < p + k := by simpa using Hb.out
    have CF := Lib.hid (fail_any R P s (p + k) z most e 6 (w1.drewN n) HR2.out)
    have eE : firstE e 6 = E := by rw [← HE.out]; unfold bitsE; rw [if_pos hb]
    rw [eE] at CF
    go_wp2_with fail
    refine CF.out.mono ?_
    rintro r w3 ⟨rfl, hR3, hC3⟩
    have HR3 := Lib.hid hR3
    have HC3 := Lib.hid (HC2.out.trans hC3)
    clear hR3 hC3 CF
    go_wp2_with fail
    go_ret
    exact ⟨rfl, HR3.out, HC3.out⟩
  | false =>
    have hb : ¬ 8 * s.size < p + k := by simpa using Hb.out
    have eE : E = e := by rw [← HE.out]; unfold bitsE; rw [if_neg hb]
    go_wp2_with fail
    go_ret
    exact ⟨rfl, by rw [eE]; exact HR2.out, HC2.out⟩

/-- The error when z bytes have come out. -/
def growE (most z e : Nat) : Nat := if most < z then firstE e 2 else e
theorem grow_any (R P : Nat) (s : ByteArray) (p z most e k : Nat) (hz : z ≤ 1000000000000) (_hm : most ≤ 1000000) (hk : k ≤ 1000000) (w : World) (hR : RdAt w R P s p z most e) :
    Calls Try.prog 72 #[.pointer (some ⟨R, 0, none⟩), .int .i64 (k : Int)] w fun r w' => r = .returned (.tuple #[]) ∧ RdAt w' R P s p (z + k) most (growE most (z + k) e) ∧ Rch R P w w' := by
  have c1 := hR.1.cell 1
  have f1 := hR.1.frozen 1
  simp at c1
  obtain ⟨z2, Hz2⟩ : ∃ v, Hid (z + k = v) := ⟨_, Lib.hid (Eq.refl _)⟩
  have e2 : (z : Int) + (k : Int) = (z2 : Int) := by have := Hz2.out; omega
  have hz2 : z2 ≤ 2000000000000 := by have := Hz2.out; omega
  have hw : IntKind.i64.wrap ((z : Int) + (k : Int)) = (z2 : Int) := by rw [e2]; exact IntWalk.i64_in _ (by omega)
  have HR2 := Lib.hid (hR.size z2)
  have HC : Hid (Rch R P w (w.setCell ⟨R, 1, none⟩ (.int .i64 (z2 : Int)))) := Rch.set_ 1 _
  rw [Hz2.out]
  obtain ⟨E, HE⟩ : ∃ E, Hid (growE most z2 e = E) := ⟨_, Lib.hid (Eq.refl _)⟩
  rw [HE.out]
  clear hR
  go_enter Try.func72, Try.ntmps72
  go_wp2_with fail
  obtain ⟨w1, HW1⟩ : ∃ W, Hid (w.setCell ⟨R, 1, none⟩ (.int .i64 (z2 : Int)) = W) := ⟨_, Lib.hid (Eq.refl _)⟩
  rw [HW1.out] at HR2 HC ⊢
  have g1 := HR2.out.1.cell 1
  have g2 := HR2.out.1.cell 2
  simp at g1 g2
  clear HW1 c1 f1 hw e2
  obtain ⟨b, Hb⟩ : ∃ b, Hid (decide (most < z2) = b) := ⟨_, Lib.hid (Eq.refl _)⟩
  have hb1 : decide ((most : Int) < (z2 : Int)) = b := by
    rw [← Hb.out]
    by_cases h : most < z2
    · rw [decide_eq_true h, decide_eq_true (by omega)]
    · rw [decide_eq_false h, decide_eq_false (by omega)]
  cases b with
  | true =>
    have hlt : most < z2 := by simpa using Hb.out
    have eE : firstE e 2 = E := by rw [← HE.out]; unfold growE; rw [if_pos hlt]
    go_wp2_with fail
    go_quiet (fail)
    have CF := Lib.hid (fun W hR => fail_any R P s p z2 most e 2 W hR)
    rw [eE] at CF
    go_wp2_with fail
    refine (CF.out _ (HR2.out.drewN _)).mono ?_
    rintro r w3 ⟨rfl, hR3, hC3⟩
    have HR3 := Lib.hid hR3
    have HC3 := Lib.hid (HC.out.trans ((Rch.drewN _).trans hC3))
    clear hR3 hC3 CF
    go_wp2_with fail
    (try simp only [Exit.inBlock, Exit.then]); refine bodyPost_end (results_none rfl _ _ _) rfl ?_
    exact ⟨rfl, HR3.out, HC3.out⟩
  | false =>
    have hlt : ¬ most < z2 := by simpa using Hb.out
    have eE : E = e := by rw [← HE.out]; unfold growE; rw [if_neg hlt]
    go_wp2_with fail
    go_quiet (fail)
    go_wp2_with fail
    (try simp only [Exit.inBlock, Exit.then]); refine bodyPost_end (results_none rfl _ _ _) rfl ?_
    exact ⟨rfl, by rw [eE]; exact HR2.out, HC.out.trans (Rch.drewN _)⟩

theorem symbol_err (R P : Nat) (s : ByteArray) (p z most e : Nat) (he : e ≠ 0) (t : Value) (w : World) (hR : RdAt w R P s p z most e) :
    Calls Try.prog 74 #[.pointer (some ⟨R, 0, none⟩), t] w fun r w' => r = .returned (.int .i64 0) ∧ RdAt w' R P s p z most e ∧ Rch R P w w' := by
  have c3 := hR.1.cell 3
  simp at c3
  have d0 : ((e : Int) != 0) = true := by simp; omega
  have HR := Lib.hid hR
  clear hR
  go_enter Try.func74, Try.ntmps74
  go_wp2_with fail
  go_ret
  exact ⟨rfl, HR.out, Rch.refl _⟩

theorem symbol_ok (L : Nat → Nat) (n : Nat) (hL : ∀ s, InAll L n s → L s ≤ 15) (hn : n ≤ 400) (T g N cap : Nat) (B : Nat → Nat → Int) (pv pn : Nat → Nat) (hG : Grown (bitsF L n) L (InAll L n) B N pv pn)
    (R P : Nat) (s : ByteArray) (p z most : Nat) (hs : s.size ≤ 100000) (hp : p ≤ 1000000) (hTP : T ≠ P) (hgP : g ≠ P) (w : World) (hA : TreeAt w T g N cap B) (hR : RdAt w R P s p z most 0) :
    Calls Try.prog 74 #[.pointer (some ⟨R, 0, none⟩), .pointer (some ⟨T, 0, none⟩)] w fun r w' => ∃ sym err taken : Nat, r = .returned (.int .i64 (sym : Int)) ∧
      NextOut (bitsF L n) L (InAll L n) (num s / 2 ^ p) (8 * s.size) p sym err taken ∧ taken ≤ 16 ∧ RdAt w' R P s (p + taken) z most err ∧ Rch R P w w' := by
  have CN := Lib.hid (next_any (bitsF L n) L (InAll L n) T g N cap B pv pn hG hL (fun s h => by have := h.1; omega) P s p hs hp hTP hgP w hA hR.2.1)
  have c0 := hR.1.cell 0
  have c3 := hR.1.cell 3
  simp at c0 c3
  have HR := Lib.hid hR
  clear hR hA hG
  go_enter Try.func74, Try.ntmps74
  go_wp2_with fail
  refine CN.out.mono ?_
  rintro r w1 ⟨sym, err, taken, rfl, hN, ht, hS1, hg1, _⟩
  have HN := Lib.hid hN
  have HR1 := Lib.hid (HR.out.read hS1 hg1)
  have HC1 : Hid (Rch R P w w1) := Rch.row hg1
  have CF := Lib.hid (fail_any R P s (p + taken) z most 0 err w1 HR1.out)
  clear hN hS1 hg1 c0 c3 CN
  go_wp2_with fail
  refine CF.out.mono ?_
  rintro r w2 ⟨rfl, hR2, hC2⟩
  have HR2 := Lib.hid hR2
  have HC2 := Lib.hid (HC1.out.trans hC2)
  clear hR2 hC2 CF
  go_wp2_with fail
  go_ret
  exact ⟨sym, err, taken, rfl, HN.out, ht, HR2.out, HC2.out⟩

theorem plant_err (R P : Nat) (s : ByteArray) (p z most e : Nat) (he : e ≠ 0) (v : Value) (w : World) (hR : RdAt w R P s p z most e) :
    Calls Try.prog 73 #[.pointer (some ⟨R, 0, none⟩), v] w fun r w' => r = .returned (.pointer none) ∧ RdAt w' R P s p z most e ∧ Rch R P w w' := by
  have c3 := hR.1.cell 3
  simp at c3
  have d0 : ((e : Int) != 0) = true := by simp; omega
  have HR := Lib.hid hR
  clear hR
  go_enter Try.func73, Try.ntmps73
  go_wp2_with fail
  go_ret
  exact ⟨rfl, HR.out, Rch.refl _⟩

theorem rplant_ok (a : Option Addr) (n cap : Nat) (m : Nat → Int) (hn : n ≤ 320) (hm : ∀ i, i < n → 0 ≤ m i ∧ m i ≤ 15) (R P : Nat) (s : ByteArray) (p z most : Nat) (w : World) (hr : IRow w a n m) (hR : RdAt w R P s p z most 0) :
    Calls Try.prog 73 #[.pointer (some ⟨R, 0, none⟩), .slice a n cap] w fun r w' => Rch R P w w' ∧
      ((¬ Fits (parts (lens m) n) (someOf (lens m) n) ∧ r = .returned (.pointer none) ∧ RdAt w' R P s p z most 3) ∨
       (Fits (parts (lens m) n) (someOf (lens m) n) ∧ ∃ (T g N cap : Nat) (B : Nat → Nat → Int) (pv pn : Nat → Nat), r = .returned (.pointer (some ⟨T, 0, none⟩)) ∧ w.heap.size ≤ T ∧ w.heap.size ≤ g ∧ TreeAt w' T g N cap B ∧
          Grown (bitsF (lens m) n) (lens m) (InAll (lens m) n) B N pv pn ∧ RdAt w' R P s p z most 0)) := by
  have CP := Lib.hid (plant_any a n cap m (by omega) w hr)
  have c3 := hR.1.cell 3
  simp at c3
  have HR := Lib.hid hR
  have Hm := Lib.hid hm
  clear hR hr hm
  go_enter Try.func73, Try.ntmps73
  go_wp2_with fail
  refine CP.out.mono ?_
  intro r w1 h
  obtain ⟨hb, ⟨h1, rfl⟩ | ⟨h1, ⟨i, h2, h3⟩, rfl⟩ | ⟨h1, h2, h3, rfl⟩ | ⟨h1, h2, h3, T, g, N, cp, B, pv, pn, rfl, hT, hg, hA, hN, hG⟩⟩ := h
  · omega
  · exact absurd (Hm.out i h2) h3
  · have HR1 := Lib.hid (HR.out.keep hb)
    have HC1 : Hid (Rch R P w w1) := Rch.below hb (Nat.le_refl _)
    have H3 := Lib.hid h3
    have CF := Lib.hid (fail_any R P s p z most 0 3 w1 HR1.out)
    clear hb h1 h2 h3 CP c3
    unfold badT
    go_wp2_with fail
    refine CF.out.mono ?_
    rintro r w2 ⟨rfl, hR2, hC2⟩
    have HR2 := Lib.hid hR2
    have HC2 := Lib.hid (HC1.out.trans hC2)
    clear hR2 hC2 CF
    go_wp2_with fail
    go_ret
    exact ⟨HC2.out, .inl ⟨H3.out, rfl, HR2.out⟩⟩
  · have HR1 := Lib.hid (HR.out.keep hb)
    have HC1 : Hid (Rch R P w w1) := Rch.below hb (Nat.le_refl _)
    have H3 := Lib.hid h3
    have HA := Lib.hid hA
    have HG := Lib.hid hG
    clear hb h1 h2 h3 CP c3 hA hG
    go_wp2_with fail
    go_ret
    exact ⟨HC1.out, .inr ⟨H3.out, T, g, N, cp, B, pv, pn, rfl, hT, hg, HA.out, HG.out, HR1.out⟩⟩
end Go.Proofs.Ytjnglahjngiofaa
namespace Go.Proofs.Ytjnglahjngiofaa
open Go.RowKit
set_option maxRecDepth 100000

structure Tok where
  b : UInt8
  l : Int
  d : Int
instance : Inhabited Tok := ⟨⟨0, 0, 0⟩⟩
def tk (S : List Tok) (i : Nat) : Tok := S.getD i default
theorem tk_get {S : List Tok} {i : Nat} (h : i < S.length) : tk S i = S[i] := by simp [tk, List.getD, h]
theorem drop_tk {S : List Tok} {i : Nat} (h : i < S.length) : S.drop i = tk S i :: S.drop (i + 1) := by rw [tk_get h, List.drop_eq_getElem_cons h]

/-- One byte again, k times. -/
def rep (d : Nat) (o : List UInt8) : Nat → List UInt8
  | 0 => o
  | k + 1 => rep d o k ++ [(rep d o k).getD ((rep d o k).length - d) 0]
theorem rep_len (d : Nat) (o : List UInt8) (k : Nat) : (rep d o k).length = o.length + k := by
  induction k with
  | zero => rfl
  | succ k ih => show (rep d o k ++ [_]).length = _; rw [List.length_append, ih]; rfl
/-- The error at a token behind n bytes. -/
def terr (most : Int) (n : Nat) (t : Tok) : Nat :=
  if t.l = 0 then (if t.d ≠ 0 then 4 else if most ≤ (n : Int) then 2 else 0)
  else if t.b ≠ 0 ∨ t.l < 3 ∨ 258 < t.l ∨ t.d < 1 ∨ 32768 < t.d ∨ (n : Int) < t.d then 4
  else if most < (n : Int) + t.l then 2 else 0
def tout (o : List UInt8) (t : Tok) : List UInt8 := if t.l = 0 then o ++ [t.b] else rep t.d.toNat o t.l.toNat
/-- The text of tokens, the error. -/
def texp (most : Int) (o : List UInt8) : List Tok → List UInt8 × Nat
  | [] => (o, 0)
  | t :: r => if terr most o.length t = 0 then texp most (tout o t) r else ([], terr most o.length t)
theorem texp_step {most : Int} {o : List UInt8} {t : Tok} {r : List Tok} (h : terr most o.length t = 0) : texp most o (t :: r) = texp most (tout o t) r := if_pos h
theorem texp_stop {most : Int} {o : List UInt8} {t : Tok} {r : List Tok} {e : Nat} (h : terr most o.length t = e) (he : e ≠ 0) : texp most o (t :: r) = ([], e) := by
  show (if _ then _ else _) = _
  rw [if_neg (by rw [h]; exact he), h]

/-- The tokens S of type e lie behind a. -/
def TkRow (w : World) (a : Option Addr) (S : List Tok) : Prop :=
  S.length = 0 ∨ ∃ b off, a = some ⟨b, off, none⟩ ∧ b < w.heap.size ∧ ∀ i, i < S.length → w.cell? ⟨b, off + i * 3, none⟩ = some (.int .u8 ((tk S i).b.toNat : Int)) ∧ w.cell? ⟨b, off + i * 3 + 1, none⟩ = some (.int .i64 (tk S i).l) ∧ w.cell? ⟨b, off + i * 3 + 2, none⟩ = some (.int .i64 (tk S i).d)
section
variable {w w' : World} {a : Option Addr} {S : List Tok}
theorem TkRow.get (h : TkRow w a S) (i : Nat) (hi : i < S.length) : ∃ b off, a = some ⟨b, off, none⟩ ∧ b < w.heap.size ∧ w.cell? ⟨b, off + i * 3, none⟩ = some (.int .u8 ((tk S i).b.toNat : Int)) ∧ w.cell? ⟨b, off + i * 3 + 1, none⟩ = some (.int .i64 (tk S i).l) ∧ w.cell? ⟨b, off + i * 3 + 2, none⟩ = some (.int .i64 (tk S i).d) := by
  rcases h with h | ⟨b, off, h1, h2, h3⟩
  · omega
  · exact ⟨b, off, h1, h2, h3 i hi⟩
theorem TkRow.below {B : Nat} (h : TkRow w a S) (hb : Below B w w') (hB : w.heap.size ≤ B) : TkRow w' a S := by
  rcases h with h | ⟨b, off, h1, h2, h3⟩
  · exact .inl h
  · refine .inr ⟨b, off, h1, Nat.lt_of_lt_of_le h2 hb.size, fun i hi => ?_⟩
    obtain ⟨c0, c1, c2⟩ := h3 i hi
    have e : b < B := by omega
    exact ⟨(hb.cell (p := ⟨b, off + i * 3, none⟩) e).trans c0, (hb.cell (p := ⟨b, off + i * 3 + 1, none⟩) e).trans c1, (hb.cell (p := ⟨b, off + i * 3 + 2, none⟩) e).trans c2⟩
end
def kcells3 (S : List Tok) : List Value := S.flatMap fun x => [.int .u8 (x.b.toNat : Int), .int .i64 x.l, .int .i64 x.d]
theorem kcells3_length (S : List Tok) : (kcells3 S).length = S.length * 3 := by
  induction S with
  | nil => rfl
  | cons x r ih =>
    have e : kcells3 (x :: r) = .int .u8 (x.b.toNat : Int) :: .int .i64 x.l :: .int .i64 x.d :: kcells3 r := rfl
    rw [e]
    simp only [List.length_cons, ih]
    omega
theorem kcells3_append (S T : List Tok) : kcells3 (S ++ T) = kcells3 S ++ kcells3 T := by simp [kcells3]
theorem kcells3_at (S : List Tok) (i : Nat) (hi : i < S.length) : (kcells3 S)[i * 3]? = some (.int .u8 ((tk S i).b.toNat : Int)) ∧ (kcells3 S)[i * 3 + 1]? = some (.int .i64 (tk S i).l) ∧ (kcells3 S)[i * 3 + 2]? = some (.int .i64 (tk S i).d) := by
  induction S generalizing i with
  | nil => cases hi
  | cons x r ih =>
    have e : kcells3 (x :: r) = .int .u8 (x.b.toNat : Int) :: .int .i64 x.l :: .int .i64 x.d :: kcells3 r := rfl
    rw [e]
    cases i with
    | zero => exact ⟨rfl, rfl, rfl⟩
    | succ i =>
      rw [List.length_cons] at hi
      have := ih i (by omega)
      rw [show (i + 1) * 3 = i * 3 + 1 + 1 + 1 by omega]
      simp only [List.getElem?_cons_succ]
      exact this
theorem info_tok : (Try.prog.info? 35).map (fun i => (i.zero, i.size, i.bytes)) = some (some (.agg #[.int .u8 0, .int .i64 0, .int .i64 0]), 3, 24) := by kernel_rfl
theorem info_rtok : (Try.prog.info? 36).map (fun i => (i.zero, i.size, i.bytes)) = some (some (.agg #[.int .u8 0, .int .i64 0, .int .i64 0]), 3, 24) := by kernel_rfl
/-- The slice v owns the tokens S, of type e. -/
def OwnK (e : TypeId) (w : World) (base : Nat) (v : Value) (S : List Tok) : Prop := w.ownsRow base e 3 v S.length (kcells3 S)
theorem OwnK.view {e : TypeId} {w : World} {base : Nat} {v : Value} {S : List Tok} (h : OwnK e w base v S) : ∃ a cap, v = .slice a S.length cap ∧ TkRow w a S := by
  have hlt := World.ownsRow.lt h
  have hc := fun g hg => World.ownsRow.cells h (g := g) hg
  rcases h.2 with ⟨rfl, hl⟩ | ⟨g, cap, cur, rfl, h1, h2, h3, h4⟩
  · rw [hl]
    exact ⟨_, _, rfl, .inl hl⟩
  · refine ⟨_, _, rfl, .inr ⟨g, 0, rfl, (hlt g rfl).2, fun i hi => ?_⟩⟩
    obtain ⟨c0, c1, c2⟩ := kcells3_at S i hi
    rw [Nat.zero_add]
    have e0 : ∀ j, (⟨g, 0, none⟩ : Addr).add j = ⟨g, j, none⟩ := fun j => by unfold Addr.add; split <;> simp_all
    refine ⟨?_, ?_, ?_⟩
    · have := hc g rfl (i * 3) _ c0; rwa [e0] at this
    · have := hc g rfl (i * 3 + 1) _ c1; rwa [e0] at this
    · have := hc g rfl (i * 3 + 2) _ c2; rwa [e0] at this
theorem OwnK.below {e : TypeId} {w w' : World} {base B : Nat} {v : Value} {S : List Tok} (h : OwnK e w base v S) (hb : Below B w w') (hB : w.heap.size ≤ B) : OwnK e w' base v S := by
  have hlt := World.ownsRow.lt h
  refine ⟨h.1, ?_⟩
  rcases h.2 with h2 | ⟨g, cap, cur, rfl, h3, h4, h5⟩
  · exact .inl h2
  · exact .inr ⟨g, cap, cur, rfl, h3, (hb.block g (Nat.lt_of_lt_of_le (hlt g rfl).2 hB)).trans h4, h5⟩
theorem OwnB.below {w w' : World} {base B : Nat} {v : Value} {l : List UInt8} (h : OwnB w base v l) (hb : Below B w w') (hB : w.heap.size ≤ B) : OwnB w' base v l := by
  have hlt := World.ownsRow.lt h
  refine ⟨h.1, ?_⟩
  rcases h.2 with h2 | ⟨g, cap, cur, rfl, h3, h4, h5⟩
  · exact .inl h2
  · exact .inr ⟨g, cap, cur, rfl, h3, (hb.block g (Nat.lt_of_lt_of_le (hlt g rfl).2 hB)).trans h4, h5⟩
theorem row_blk {w : World} {b e s n P t : Nat} {v : Value} {x : List Value} {cs : Array Value} (h : w.ownsRow b e s v n x) (hB : Blk w P t cs) (hne : e ≠ t) : v.ownBlock = none ∨ v.ownBlock ≠ some P := by
  rcases h.2 with ⟨rfl, _⟩ | ⟨g, cap, cur, rfl, _, hh, _⟩
  · exact .inl rfl
  · right
    intro e'
    simp only [Value.ownBlock, Option.some.injEq] at e'
    subst e'
    unfold Blk at hB
    rw [hh] at hB
    simp only [Option.some.injEq, Obj.cells.injEq] at hB
    exact hne hB.2.1
theorem OwnB.slice {w : World} {base : Nat} {v : Value} {l : List UInt8} (h : OwnB w base v l) : ∃ a cap, v = .slice a l.length cap := by
  rcases h.2 with ⟨rfl, hl⟩ | ⟨g, cap, cur, rfl, _⟩
  · exact ⟨_, _, by rw [hl]⟩
  · exact ⟨_, _, rfl⟩
/-- What an Expand hands back. -/
def expV (p : List UInt8 × Nat) : Value := .tuple #[.string ⟨p.1.toArray⟩, .int .i64 (p.2 : Int)]

set_option maxHeartbeats 8000000 in
theorem expand_any (S : List Tok) (hS : S.length ≤ 1000000) (a : Option Addr) (cap : Nat) (most : Int) (hm : -9223372036854775808 ≤ most ∧ most ≤ 1000000) (w : World) (hr : TkRow w a S) :
    Calls Try.prog 20 #[.slice a S.length cap, .int .i64 most] w fun e w' => e = .returned (expV (texp most [] S)) ∧ Below w.heap.size w w' := by
  have Hr := Lib.hid hr
  obtain ⟨R, HR⟩ : ∃ R, Hid (texp most [] S = R) := ⟨_, Lib.hid (Eq.refl _)⟩
  obtain ⟨N, HN⟩ : ∃ N, Hid (S.length = N) := ⟨_, Lib.hid (Eq.refl _)⟩
  rw [HR.out]
  rw [HN.out] at hS ⊢
  clear hr
  have HB0 := Lib.hid (Below.refl w.heap.size w)
  have HO0 := Lib.hid (OwnB.nil w w.heap.size)
  go_enter Try.func20, Try.ntmps20
  go_wp2_with fail
  go_loopw [6, 11] (fun vo i wr => ∃ (k : Nat) (o : List UInt8), k ≤ N ∧ i = .int .i64 (k : Int) ∧ (o.length = 0 ∨ (o.length : Int) ≤ most) ∧ Hid (texp most o (S.drop k) = R) ∧ Hid (OwnB wr w.heap.size vo o) ∧ Hid (Below w.heap.size w wr)) (fun _ i _ => N - (intOf i).toNat)
  case atStart => exact ⟨0, [], by omega, rfl, .inl rfl, HR, HO0, HB0⟩
  case round =>
    clear HB0 HO0 HR
    obtain ⟨k, o, hk, rfl, hol, HR, HO, HB⟩ := hrel
    by_cases hlt : k < N
    · have hkl : k < S.length := by rw [HN.out]; exact hlt
      obtain ⟨b, off, rfl, hbl, c0, c1, c2⟩ := (Hr.out.below HB.out (Nat.le_refl _)).get k hkl
      have Hd := Lib.hid (drop_tk hkl)
      obtain ⟨t, Ht⟩ : ∃ t, Hid (tk S k = t) := ⟨_, Lib.hid (Eq.refl _)⟩
      rw [Ht.out] at c0 c1 c2 Hd
      rw [Hd.out] at HR
      obtain ⟨tb, tl, td⟩ := t
      simp only at c0 c1 c2
      have htb : tb.toNat < 256 := UInt8.toNat_lt tb
      obtain ⟨ol, Hol⟩ : ∃ n, Hid (o.length = n) := ⟨_, Lib.hid (Eq.refl _)⟩
      have HE : ∀ e, terr most ol ⟨tb, tl, td⟩ = e → e ≠ 0 → R = ([], e) := fun e h1 h2 => by
        rw [← HR.out]; exact texp_stop (by rw [Hol.out]; exact h1) h2
      have HG : terr most ol ⟨tb, tl, td⟩ = 0 → texp most (tout o ⟨tb, tl, td⟩) (S.drop (k + 1)) = R := fun h => by
        rw [← HR.out]; exact (texp_step (by rw [Hol.out]; exact h)).symm
      have hE := Lib.hid HE
      have hG := Lib.hid HG
      rw [Hol.out] at hol
      clear HE HG
      go_upto_region 5 with (fail)
      have hB4 := Blk.new wr 35 #[.int .u8 (tb.toNat : Int), .int .i64 tl, .int .i64 td]
      have HB4 := Lib.hid (HB.out.alloc HB.out.size (.cells #[.int .u8 (tb.toNat : Int), .int .i64 tl, .int .i64 td] 35))
      have HO4 := Lib.hid (HO.out.below ((Below.refl wr.heap.size wr).alloc (Nat.le_refl _) (.cells #[.int .u8 (tb.toNat : Int), .int .i64 tl, .int .i64 td] 35)) (Nat.le_refl _))
      obtain ⟨g4, Hg4⟩ : ∃ g, Hid (wr.heap.size = g) := ⟨_, Lib.hid (Eq.refl _)⟩
      rw [Hg4.out] at hB4 ⊢
      generalize wr.alloc (.cells #[.int .u8 (tb.toNat : Int), .int .i64 tl, .int .i64 td] 35) = w4 at *
      clear c0 c1 c2 HB HO
      obtain ⟨av, cv, rfl⟩ := HO4.out.slice
      rw [Hol.out] at HO4 ⊢
      have g0 := hB4.cell 0
      have g1 := hB4.cell 1
      have g2 := hB4.cell 2
      simp at g0 g1 g2
      by_cases hl0 : tl = 0
      · subst hl0
        by_cases hd0 : td = 0
        · subst hd0
          by_cases hmo : most ≤ (ol : Int)
          · have dm : decide (most ≤ (ol : Int)) = true := by simpa using hmo
            have HRe : Hid (R = ([], 2)) := hE.out 2 (by unfold terr; simp [hmo]) (by decide)
            go_wp2_with fail
            go_ret2
            exact ⟨by rw [HRe.out]; rfl, HB4.out⟩
          · have dm : decide (most ≤ (ol : Int)) = false := by simpa using hmo
            have HRn := Lib.hid (hG.out (by unfold terr; simp [hmo]))
            have hos := HO4.out
            have hbsw : w.heap.size ≤ _ := HB4.out.size
            have hbsx : w4.heap.size ≤ w4.heap.size := Nat.le_refl _
            go_wp2_with (first
              | (at_builtin; go_must (refine wpList_append_byte _ rfl (.tmp 25) (.tmp 28) rfl w.heap.size (.slice av ol cv) o (tb.toNat : Int) hos rfl rfl rfl ?_ ?_ ?_ hbsw ?_; omega; omega; (rw [Hol.out]; omega); intro v5 w5 hown5 hb5; have HO5 := Lib.hid hown5; have Hb5 := Lib.hid (HB4.out.trans hb5); clear hown5 hb5 hos))
              | fail)
            go_roundw
            case rel =>
              refine ⟨k + 1, o ++ [tb], by omega, by go_num, .inr (by rw [List.length_append, Hol.out]; simp; omega), HRn, ?_, Hb5⟩
              show OwnB _ _ _ _
              have h := HO5.out
              simp only [Int.toNat_natCast, UInt8.ofNat_toNat] at h
              exact h
            case measure => simp [intOf]; omega
        · have dd : (td != 0) = true := by simpa using hd0
          have HRe : Hid (R = ([], 4)) := hE.out 4 (by unfold terr; simp [hd0]) (by decide)
          go_wp2_with fail
          go_ret2
          exact ⟨by rw [HRe.out]; rfl, HB4.out⟩
      · have dl0 : (tl == 0) = false := by simpa using hl0
        by_cases hbad : tb ≠ 0 ∨ tl < 3 ∨ 258 < tl ∨ td < 1 ∨ 32768 < td ∨ (ol : Int) < td
        · have HRe : Hid (R = ([], 4)) := hE.out 4 (by unfold terr; rw [if_neg hl0, if_pos hbad]) (by decide)
          have Hbad := Lib.hid hbad
          clear hbad hE hG
          by_cases h1 : tb.toNat = 0
          · have d1 : ((tb.toNat : Int) != 0) = false := by simp [h1]
            have htb0 : tb = 0 := by apply UInt8.toNat_inj.1; simpa using h1
            by_cases h2 : tl < 3
            · have d2 : decide (tl < 3) = true := by simpa using h2
              clear h1 htb0
              go_wp2_with fail
              go_ret2
              exact ⟨by rw [HRe.out]; rfl, HB4.out⟩
            have d2 : decide (tl < 3) = false := by simpa using h2
            by_cases h3 : 258 < tl
            · have d3 : decide (258 < tl) = true := by simpa using h3
              clear h1 htb0
              go_wp2_with fail
              go_ret2
              exact ⟨by rw [HRe.out]; rfl, HB4.out⟩
            have d3 : decide (258 < tl) = false := by simpa using h3
            by_cases h4 : td < 1
            · have d4 : decide (td < 1) = true := by simpa using h4
              clear h1 htb0
              go_wp2_with fail
              go_ret2
              exact ⟨by rw [HRe.out]; rfl, HB4.out⟩
            have d4 : decide (td < 1) = false := by simpa using h4
            by_cases h5 : 32768 < td
            · have d5 : decide (32768 < td) = true := by simpa using h5
              clear h1 htb0
              go_wp2_with fail
              go_ret2
              exact ⟨by rw [HRe.out]; rfl, HB4.out⟩
            have d5 : decide (32768 < td) = false := by simpa using h5
            have h6 : (ol : Int) < td := by
              rcases Hbad.out with h | h | h | h | h | h
              · exact absurd htb0 h
              · omega
              · omega
              · omega
              · omega
              · exact h
            have d6 : decide ((ol : Int) < td) = true := by simpa using h6
            clear h1 htb0
            go_wp2_with fail
            go_ret2
            exact ⟨by rw [HRe.out]; rfl, HB4.out⟩
          · have d1 : ((tb.toNat : Int) != 0) = true := by rw [bne_iff_ne]; omega
            clear h1
            go_wp2_with fail
            go_ret2
            exact ⟨by rw [HRe.out]; rfl, HB4.out⟩
        · have hgd : tb = 0 ∧ 3 ≤ tl ∧ tl ≤ 258 ∧ 1 ≤ td ∧ td ≤ 32768 ∧ td ≤ (ol : Int) := by
            refine ⟨?_, by omega, by omega, by omega, by omega, by omega⟩
            by_cases e : tb = 0
            · exact e
            · exact absurd (.inl e) hbad
          obtain ⟨rfl, h2, h3, h4, h5, h6⟩ := hgd
          have d1 : (((0 : UInt8).toNat : Int) != 0) = false := rfl
          have d2 : decide (tl < 3) = false := by simp; omega
          have d3 : decide (258 < tl) = false := by simp; omega
          have d4 : decide (td < 1) = false := by simp; omega
          have d5 : decide (32768 < td) = false := by simp; omega
          have d6 : decide ((ol : Int) < td) = false := by simp; omega
          have hol2 : (ol : Int) ≤ most := by rcases hol with h | h <;> omega
          have Hbad := Lib.hid hbad
          clear hbad
          by_cases h7 : most - (ol : Int) < tl
          · have d7 : decide (most - (ol : Int) < tl) = true := by simpa using h7
            have HRe : Hid (R = ([], 2)) := hE.out 2 (by unfold terr; rw [if_neg hl0, if_neg Hbad.out, if_pos (show most < (ol : Int) + tl by omega)]) (by decide)
            clear hE hG
            go_wp2_with fail
            go_ret2
            exact ⟨by rw [HRe.out]; rfl, HB4.out⟩
          · have d7 : decide (most - (ol : Int) < tl) = false := by simpa using h7
            have HRn := hG.out (by unfold terr; rw [if_neg hl0, if_neg Hbad.out, if_neg (show ¬ most < (ol : Int) + tl by omega)])
            obtain ⟨L, rfl⟩ : ∃ L : Nat, tl = (L : Int) := ⟨tl.toNat, by omega⟩
            obtain ⟨D, rfl⟩ : ∃ D : Nat, td = (D : Int) := ⟨td.toNat, by omega⟩
            have hto : tout o ⟨0, (L : Int), (D : Int)⟩ = rep D o L := by unfold tout; rw [if_neg hl0]; rfl
            rw [hto] at HRn
            have HRN := Lib.hid HRn
            have HB4' := Lib.hid hB4
            clear hE hG HRn hto hl0
            go_wp2_with fail
            go_loopw [6, 69] (fun vo i wr => ∃ j : Nat, j ≤ L ∧ i = .int .i64 (j : Int) ∧ Hid (OwnB wr w.heap.size vo (rep D o j)) ∧ Hid (Below w.heap.size w wr) ∧ Hid (Blk wr g4 35 #[.int .u8 ((0 : UInt8).toNat : Int), .int .i64 (L : Int), .int .i64 (D : Int)])) (fun _ i _ => L - (intOf i).toNat)
            case atStart => exact ⟨0, by omega, rfl, HO4, HB4, HB4'⟩
            case round =>
              clear HO4 HB4 HB4' hB4 g0 g1 g2
              obtain ⟨j, hj, rfl, HO, HB, HK⟩ := hrel
              have hrl := rep_len D o j
              rw [Hol.out] at hrl
              by_cases hltj : j < L
              · obtain ⟨g, cg, rfl, _⟩ := HO.out.form (by omega)
                have hc := HO.out.cell (ol + j - D) (by omega)
                obtain ⟨y, Hy⟩ : ∃ y, Hid ((rep D o j)[ol + j - D]'(by omega) = y) := ⟨_, Lib.hid (Eq.refl _)⟩
                have Hsucc : Hid (rep D o (j + 1) = rep D o j ++ [y]) := by
                  show rep D o j ++ [_] = _
                  rw [hrl, ← Hy.out]
                  simp [List.getD, show ol + j - D < (rep D o j).length by omega]
                rw [Hy.out] at hc
                have hyl : y.toNat < 256 := UInt8.toNat_lt y
                obtain ⟨q, Hq⟩ : ∃ q, Hid (ol + j - D = q) := ⟨_, Lib.hid (Eq.refl _)⟩
                have hqi : ((ol + j : Nat) : Int) - (D : Int) = (q : Int) := by have := Hq.out; omega
                have hql : q < ol + j := by have := Hq.out; omega
                rw [Hq.out] at hc
                rw [hrl] at HO ⊢
                have k2 := HK.out.cell 2
                simp at k2
                have hgl := HK.out.lt
                obtain ⟨P, HPl⟩ : ∃ n, Hid (ol + j = n) := ⟨_, Lib.hid (Eq.refl _)⟩
                rw [HPl.out] at hqi hql hrl HO ⊢
                have hPl : P ≤ 1000000 := by have := HPl.out; omega
                have hos2 := HO.out
                unfold OwnB at hos2
                rw [hrl] at hos2
                have hbsw : w.heap.size ≤ _ := HB.out.size
                have HKx := HK
                clear HK
                go_wp2_with (first
                  | (at_builtin; go_must (refine wpList_append_elem _ rfl (.tmp 71) (.tmp 80) rfl Try.underlying47 info_u8 rfl (by decide) w.heap.size (.slice (some ⟨g, 0, none⟩) P cg) P (bcells (rep D o j)) [.int .u8 (y.toNat : Int)] hos2 rfl ?_ rfl rfl rfl ?_ ?_ hbsw ?_; (intro z hz; simp at hz; subst hz; rfl); (unfold maxLen; omega); omega; intro v5 w5 hown5 hg5; have HO5 := Lib.hid hown5; have Hb5 := Lib.hid (HB.out.trans (below_grown hos2 hg5 hbsw)); have HK5 := Lib.hid (HKx.out.grown hg5 (fun e => by rcases row_blk hos2 HKx.out (by decide) with h | h; (rw [h] at e; cases e); exact h e.symm)); clear hown5 hg5 hos2))
                  | fail)
                go_roundw
                case rel =>
                  refine ⟨j + 1, by omega, by go_num, ?_, Hb5, HK5⟩
                  show OwnB _ _ _ _
                  rw [Hsucc.out]
                  unfold OwnB
                  rw [List.length_append, hrl, bcells_append]
                  exact HO5.out
                case measure => simp [intOf]; omega
              · obtain rfl : j = L := by omega
                have k1 := HK.out.cell 1
                simp at k1
                go_wp2_with fail
                go_roundw
                case rel => exact ⟨k + 1, rep D o j, by omega, by go_num, .inr (by rw [rep_len, Hol.out]; omega), HRN, HO, HB⟩
                case measure => simp [intOf]; omega
    · obtain rfl : k = N := by omega
      have hRd : R = (o, 0) := by
        rw [← HR.out, List.drop_of_length_le (by rw [HN.out]; exact Nat.le_refl _)]; rfl
      have hcv := run_string_own _ _ _ _ HO.out
      have HRd := Lib.hid hRd
      clear hRd
      go_wp2_with fail
      go_ret2
      exact ⟨by rw [HRd.out]; rfl, HB.out⟩
end Go.Proofs.Ytjnglahjngiofaa
namespace Go.Proofs.Ytjnglahjngiofaa
open Go.RowKit
set_option maxRecDepth 100000

/-- Base and further bits behind k symbols. -/
def stepS (step first : Nat) : Nat → Nat × Nat
  | 0 => (first, 0)
  | k + 1 => let m := if 2 * step ≤ k ∧ k % step = 0 then (stepS step first k).2 + 1 else (stepS step first k).2
             ((stepS step first k).1 + 2 ^ m, m)
/-- The further bits of symbol i. -/
def moreS (step first i : Nat) : Nat := if 2 * step ≤ i ∧ i % step = 0 then (stepS step first i).2 + 1 else (stepS step first i).2
theorem stepS_le : ∀ k, k ≤ 29 → (stepS 4 3 k).1 ≤ 100000 ∧ (stepS 4 3 k).2 ≤ 14 ∧ (stepS 2 1 k).1 ≤ 100000 ∧ (stepS 2 1 k).2 ≤ 14 := by decide
theorem stepS_succ (step first k : Nat) : stepS step first (k + 1) = ((stepS step first k).1 + 2 ^ (moreS step first k), moreS step first k) := rfl
/-- The least size and the further bits. -/
def sizeS (far : Bool) (i : Int) : Nat × Nat :=
  if far then (if i < 0 ∨ 29 < i then (0, 0) else ((stepS 2 1 i.toNat).1, moreS 2 1 i.toNat))
  else (if i < 0 ∨ 28 < i then (0, 0) else if i = 28 then (258, 0) else ((stepS 4 3 i.toNat).1, moreS 4 3 i.toNat))

set_option maxHeartbeats 4000000 in
theorem size_far (i : Int) (w : World) : Calls Try.prog 34 #[.int .i64 i, .bool true] w fun e w' => e = .returned (.tuple #[.int .i64 ((sizeS true i).1 : Int), .int .i64 ((sizeS true i).2 : Int)]) ∧ ∃ n, w' = w.drewN n := by
  by_cases h0 : i < 0
  · have d0 : decide (i < 0) = true := by rw [decide_eq_true_eq]; exact h0
    have e : sizeS true i = (0, 0) := by unfold sizeS; rw [if_pos rfl, if_pos (.inl h0)]
    rw [e]
    clear h0
    go_enter Try.func34, Try.ntmps34
    go_wp2_with fail
    go_ret2
    exact ⟨rfl, 0, rfl⟩
  · have d0 : decide (i < 0) = false := by rw [decide_eq_false_iff_not]; exact h0
    by_cases h1 : 29 < i
    · have d1 : decide (29 < i) = true := by rw [decide_eq_true_eq]; exact h1
      have e : sizeS true i = (0, 0) := by unfold sizeS; rw [if_pos rfl, if_pos (.inr h1)]
      rw [e]
      clear h0 h1
      go_enter Try.func34, Try.ntmps34
      go_wp2_with fail
      go_ret2
      exact ⟨rfl, 0, rfl⟩
    · have d1 : decide (29 < i) = false := by rw [decide_eq_false_iff_not]; exact h1
      obtain ⟨n, rfl⟩ : ∃ n : Nat, i = (n : Int) := ⟨i.toNat, by omega⟩
      have hn : n ≤ 29 := by omega
      have e : sizeS true (n : Int) = ((stepS 2 1 n).1, moreS 2 1 n) := by unfold sizeS; rw [if_pos rfl, if_neg (by omega)]; rfl
      have d1b : decide (29 < n) = false := by rw [decide_eq_false_iff_not]; omega
      rw [e]
      clear h0 h1 e
      obtain ⟨R1, HR1⟩ : ∃ r, Hid ((stepS 2 1 n).1 = r) := ⟨_, Lib.hid (Eq.refl _)⟩
      obtain ⟨R2, HR2⟩ : ∃ r, Hid (moreS 2 1 n = r) := ⟨_, Lib.hid (Eq.refl _)⟩
      rw [HR1.out, HR2.out]
      go_enter Try.func34, Try.ntmps34
      go_wp2_with fail
      go_loopw [9, 10, 29] (fun b_ m_ k_ wr => ∃ k b m : Nat, k ≤ n ∧ k_ = .int .i64 (k : Int) ∧ b_ = .int .i64 (b : Int) ∧ m_ = .int .i64 (m : Int) ∧ Hid ((stepS 2 1 k).1 = b) ∧ Hid ((stepS 2 1 k).2 = m) ∧ wr = w) (fun _ _ k _ => n - (intOf k).toNat)
      case atStart => exact ⟨0, 1, 0, by omega, rfl, rfl, rfl, rfl, rfl, rfl⟩
      case round =>
        obtain ⟨k, b, m, hk, rfl, rfl, rfl, Hb, Hm, rfl⟩ := hrel
        have hle := stepS_le k (by omega)
        have hbl : b ≤ 100000 := by rw [← Hb.out]; exact hle.2.2.1
        have hml : m ≤ 14 := by rw [← Hm.out]; exact hle.2.2.2
        clear hle
        obtain ⟨r, Hr⟩ : ∃ r, Hid (k % 2 = r) := ⟨_, Lib.hid (Eq.refl _)⟩
        have hr : (k : Int).tmod 2 = (r : Int) := by rw [Int.tmod_eq_emod_of_nonneg (by omega)]; have := Hr.out; omega
        have hr2 : (k : Int) % 2 = (r : Int) := by have := Hr.out; omega
        by_cases hlt : k < n
        · have dk : decide ((k : Int) < (n : Int)) = true := by rw [decide_eq_true_eq]; omega
          have hms := moreS 2 1 k
          obtain ⟨q, Hq⟩ : ∃ q, Hid (moreS 2 1 k = q) := ⟨_, Lib.hid (Eq.refl _)⟩
          have hql : q ≤ 15 := by have := Hq.out; unfold moreS at this; rw [Hm.out] at this; split at this <;> omega
          have hq64 : min q 64 = q := by omega
          obtain ⟨p2, Hp2⟩ : ∃ p, Hid (2 ^ q = p) := ⟨_, Lib.hid (Eq.refl _)⟩
          have hp2 : p2 ≤ 32768 := by rw [← Hp2.out]; exact Nat.pow_le_pow_right (by decide) hql
          have hpI : (2 : Int) ^ q = (p2 : Int) := by rw [← Hp2.out]; simp
          have hw1 : IntKind.i64.wrap (p2 : Int) = (p2 : Int) := IntWalk.i64_in _ (by omega)
          have hw2 : IntKind.i64.wrap ((b : Int) + (p2 : Int)) = (b : Int) + (p2 : Int) := IntWalk.i64_in _ (by omega)
          have hstep := stepS_succ 2 1 k
          rw [Hb.out, Hq.out, Hp2.out] at hstep
          have Hs1 : Hid ((stepS 2 1 (k + 1)).1 = b + p2) := by show _ = _; rw [hstep]
          have Hs2 : Hid ((stepS 2 1 (k + 1)).2 = q) := by show _ = _; rw [hstep]
          clear hstep hms
          by_cases h4 : 4 ≤ k
          · have d4 : decide ((4 : Int) ≤ (k : Int)) = true := by rw [decide_eq_true_eq]; omega
            have d4b : decide (4 ≤ k) = true := by rw [decide_eq_true_eq]; omega
            by_cases hr0 : r = 0
            · subst hr0
              have eq : m + 1 = q := by rw [← Hq.out, ← Hm.out]; unfold moreS; rw [if_pos ⟨by omega, Hr.out⟩]
              subst eq
              go_wp2_with fail
              go_roundw
              case rel => exact ⟨k + 1, b + p2, m + 1, by omega, by go_num, by go_num, by go_num, Hs1, Hs2, (by first | rfl | trivial)⟩
              case measure => simp [intOf]; omega
            · have d0r : ((r : Int) == 0) = false := by simp; omega
              have eq : m = q := by rw [← Hq.out, ← Hm.out]; unfold moreS; rw [if_neg (fun h => hr0 (by have := Hr.out; omega))]
              subst eq
              go_wp2_with fail
              go_roundw
              case rel => exact ⟨k + 1, b + p2, m, by omega, by go_num, by go_num, rfl, Hs1, Hs2, (by first | rfl | trivial)⟩
              case measure => simp [intOf]; omega
          · have d4 : decide ((4 : Int) ≤ (k : Int)) = false := by rw [decide_eq_false_iff_not]; omega
            have d4b : decide (4 ≤ k) = false := by rw [decide_eq_false_iff_not]; omega
            have eq : m = q := by rw [← Hq.out, ← Hm.out]; unfold moreS; rw [if_neg (by omega)]
            subst eq
            go_wp2_with fail
            go_roundw
            case rel => exact ⟨k + 1, b + p2, m, by omega, by go_num, by go_num, rfl, Hs1, Hs2, (by first | rfl | trivial)⟩
            case measure => simp [intOf]; omega
        · obtain rfl : k = n := by omega
          have dk : decide ((k : Int) < (k : Int)) = false := by rw [decide_eq_false_iff_not]; omega
          have e1 : b = R1 := by rw [← Hb.out, ← HR1.out]
          subst e1
          by_cases h4 : 4 ≤ k
          · have d4 : decide ((4 : Int) ≤ (k : Int)) = true := by rw [decide_eq_true_eq]; omega
            have d4b : decide (4 ≤ k) = true := by rw [decide_eq_true_eq]; omega
            by_cases hr0 : r = 0
            · subst hr0
              have eq : m + 1 = R2 := by rw [← HR2.out, ← Hm.out]; unfold moreS; rw [if_pos ⟨by omega, Hr.out⟩]
              subst eq
              go_wp2_with fail
              go_ret2
              exact ⟨rfl, 0, rfl⟩
            · have d0r : ((r : Int) == 0) = false := by simp; omega
              have eq : m = R2 := by rw [← HR2.out, ← Hm.out]; unfold moreS; rw [if_neg (fun h => hr0 (by have := Hr.out; omega))]
              subst eq
              go_wp2_with fail
              go_ret2
              exact ⟨rfl, 0, rfl⟩
          · have d4 : decide ((4 : Int) ≤ (k : Int)) = false := by rw [decide_eq_false_iff_not]; omega
            have d4b : decide (4 ≤ k) = false := by rw [decide_eq_false_iff_not]; omega
            have eq : m = R2 := by rw [← HR2.out, ← Hm.out]; unfold moreS; rw [if_neg (by omega)]
            subst eq
            go_wp2_with fail
            go_ret2
            exact ⟨rfl, 0, rfl⟩
set_option maxHeartbeats 4000000 in
theorem size_near (i : Int) (w : World) : Calls Try.prog 34 #[.int .i64 i, .bool false] w fun e w' => e = .returned (.tuple #[.int .i64 ((sizeS false i).1 : Int), .int .i64 ((sizeS false i).2 : Int)]) ∧ ∃ n, w' = w.drewN n := by
  by_cases h0 : i < 0
  · have d0 : decide (i < 0) = true := by rw [decide_eq_true_eq]; exact h0
    have e : sizeS false i = (0, 0) := by unfold sizeS; rw [if_neg (by decide), if_pos (.inl h0)]
    rw [e]
    clear h0
    go_enter Try.func34, Try.ntmps34
    go_wp2_with fail
    go_ret2
    exact ⟨rfl, 0, rfl⟩
  · have d0 : decide (i < 0) = false := by rw [decide_eq_false_iff_not]; exact h0
    by_cases h1 : 28 < i
    · have d1 : decide (28 < i) = true := by rw [decide_eq_true_eq]; exact h1
      have e : sizeS false i = (0, 0) := by unfold sizeS; rw [if_neg (by decide), if_pos (.inr h1)]
      rw [e]
      clear h0 h1
      go_enter Try.func34, Try.ntmps34
      go_wp2_with fail
      go_ret2
      exact ⟨rfl, 0, rfl⟩
    · have d1 : decide (28 < i) = false := by rw [decide_eq_false_iff_not]; exact h1
      obtain ⟨n, rfl⟩ : ∃ n : Nat, i = (n : Int) := ⟨i.toNat, by omega⟩
      have hn : n ≤ 28 := by omega
      by_cases h28 : n = 28
      · have e : sizeS false (n : Int) = (258, 0) := by subst h28; rfl
        have d28 : ((n : Int) == 28) = true := by simp; omega
        rw [e]
        subst h28
        clear h0 h1 e
        go_enter Try.func34, Try.ntmps34
        go_wp2_with fail
        go_ret2
        exact ⟨rfl, 0, rfl⟩
      · skip
        have e : sizeS false (n : Int) = ((stepS 4 3 n).1, moreS 4 3 n) := by unfold sizeS; rw [if_neg (by decide), if_neg (by omega), if_neg (by omega)]; rfl
        have d28 : ((n : Int) == 28) = false := by simp; omega
        have d28b : (n == 28) = false := by simp; omega
        have d1b : decide (28 < n) = false := by rw [decide_eq_false_iff_not]; omega
        rw [e]
        clear h0 h1 e
        obtain ⟨R1, HR1⟩ : ∃ r, Hid ((stepS 4 3 n).1 = r) := ⟨_, Lib.hid (Eq.refl _)⟩
        obtain ⟨R2, HR2⟩ : ∃ r, Hid (moreS 4 3 n = r) := ⟨_, Lib.hid (Eq.refl _)⟩
        rw [HR1.out, HR2.out]
        go_enter Try.func34, Try.ntmps34
        go_wp2_with fail
        go_loopw [9, 10, 29] (fun b_ m_ k_ wr => ∃ k b m : Nat, k ≤ n ∧ k_ = .int .i64 (k : Int) ∧ b_ = .int .i64 (b : Int) ∧ m_ = .int .i64 (m : Int) ∧ Hid ((stepS 4 3 k).1 = b) ∧ Hid ((stepS 4 3 k).2 = m) ∧ wr = w) (fun _ _ k _ => n - (intOf k).toNat)
        case atStart => exact ⟨0, 3, 0, by omega, rfl, rfl, rfl, rfl, rfl, rfl⟩
        case round =>
          obtain ⟨k, b, m, hk, rfl, rfl, rfl, Hb, Hm, rfl⟩ := hrel
          have hle := stepS_le k (by omega)
          have hbl : b ≤ 100000 := by rw [← Hb.out]; exact hle.1
          have hml : m ≤ 14 := by rw [← Hm.out]; exact hle.2.1
          clear hle
          obtain ⟨r, Hr⟩ : ∃ r, Hid (k % 4 = r) := ⟨_, Lib.hid (Eq.refl _)⟩
          have hr : (k : Int).tmod 4 = (r : Int) := by rw [Int.tmod_eq_emod_of_nonneg (by omega)]; have := Hr.out; omega
          have hr2 : (k : Int) % 4 = (r : Int) := by have := Hr.out; omega
          by_cases hlt : k < n
          · have dk : decide ((k : Int) < (n : Int)) = true := by rw [decide_eq_true_eq]; omega
            have hms := moreS 4 3 k
            obtain ⟨q, Hq⟩ : ∃ q, Hid (moreS 4 3 k = q) := ⟨_, Lib.hid (Eq.refl _)⟩
            have hql : q ≤ 15 := by have := Hq.out; unfold moreS at this; rw [Hm.out] at this; split at this <;> omega
            have hq64 : min q 64 = q := by omega
            obtain ⟨p2, Hp2⟩ : ∃ p, Hid (2 ^ q = p) := ⟨_, Lib.hid (Eq.refl _)⟩
            have hp2 : p2 ≤ 32768 := by rw [← Hp2.out]; exact Nat.pow_le_pow_right (by decide) hql
            have hpI : (2 : Int) ^ q = (p2 : Int) := by rw [← Hp2.out]; simp
            have hw1 : IntKind.i64.wrap (p2 : Int) = (p2 : Int) := IntWalk.i64_in _ (by omega)
            have hw2 : IntKind.i64.wrap ((b : Int) + (p2 : Int)) = (b : Int) + (p2 : Int) := IntWalk.i64_in _ (by omega)
            have hstep := stepS_succ 4 3 k
            rw [Hb.out, Hq.out, Hp2.out] at hstep
            have Hs1 : Hid ((stepS 4 3 (k + 1)).1 = b + p2) := by show _ = _; rw [hstep]
            have Hs2 : Hid ((stepS 4 3 (k + 1)).2 = q) := by show _ = _; rw [hstep]
            clear hstep hms
            by_cases h4 : 8 ≤ k
            · have d4 : decide ((8 : Int) ≤ (k : Int)) = true := by rw [decide_eq_true_eq]; omega
              have d4b : decide (8 ≤ k) = true := by rw [decide_eq_true_eq]; omega
              by_cases hr0 : r = 0
              · subst hr0
                have eq : m + 1 = q := by rw [← Hq.out, ← Hm.out]; unfold moreS; rw [if_pos ⟨by omega, Hr.out⟩]
                subst eq
                go_wp2_with fail
                go_roundw
                case rel => exact ⟨k + 1, b + p2, m + 1, by omega, by go_num, by go_num, by go_num, Hs1, Hs2, (by first | rfl | trivial)⟩
                case measure => simp [intOf]; omega
              · have d0r : ((r : Int) == 0) = false := by simp; omega
                have eq : m = q := by rw [← Hq.out, ← Hm.out]; unfold moreS; rw [if_neg (fun h => hr0 (by have := Hr.out; omega))]
                subst eq
                go_wp2_with fail
                go_roundw
                case rel => exact ⟨k + 1, b + p2, m, by omega, by go_num, by go_num, rfl, Hs1, Hs2, (by first | rfl | trivial)⟩
                case measure => simp [intOf]; omega
            · have d4 : decide ((8 : Int) ≤ (k : Int)) = false := by rw [decide_eq_false_iff_not]; omega
              have d4b : decide (8 ≤ k) = false := by rw [decide_eq_false_iff_not]; omega
              have eq : m = q := by rw [← Hq.out, ← Hm.out]; unfold moreS; rw [if_neg (by omega)]
              subst eq
              go_wp2_with fail
              go_roundw
              case rel => exact ⟨k + 1, b + p2, m, by omega, by go_num, by go_num, rfl, Hs1, Hs2, (by first | rfl | trivial)⟩
              case measure => simp [intOf]; omega
          · obtain rfl : k = n := by omega
            have dk : decide ((k : Int) < (k : Int)) = false := by rw [decide_eq_false_iff_not]; omega
            have e1 : b = R1 := by rw [← Hb.out, ← HR1.out]
            subst e1
            by_cases h4 : 8 ≤ k
            · have d4 : decide ((8 : Int) ≤ (k : Int)) = true := by rw [decide_eq_true_eq]; omega
              have d4b : decide (8 ≤ k) = true := by rw [decide_eq_true_eq]; omega
              by_cases hr0 : r = 0
              · subst hr0
                have eq : m + 1 = R2 := by rw [← HR2.out, ← Hm.out]; unfold moreS; rw [if_pos ⟨by omega, Hr.out⟩]
                subst eq
                go_wp2_with fail
                go_ret2
                exact ⟨rfl, 0, rfl⟩
              · have d0r : ((r : Int) == 0) = false := by simp; omega
                have eq : m = R2 := by rw [← HR2.out, ← Hm.out]; unfold moreS; rw [if_neg (fun h => hr0 (by have := Hr.out; omega))]
                subst eq
                go_wp2_with fail
                go_ret2
                exact ⟨rfl, 0, rfl⟩
            · have d4 : decide ((8 : Int) ≤ (k : Int)) = false := by rw [decide_eq_false_iff_not]; omega
              have d4b : decide (8 ≤ k) = false := by rw [decide_eq_false_iff_not]; omega
              have eq : m = R2 := by rw [← HR2.out, ← Hm.out]; unfold moreS; rw [if_neg (by omega)]
              subst eq
              go_wp2_with fail
              go_ret2
              exact ⟨rfl, 0, rfl⟩

end Go.Proofs.Ytjnglahjngiofaa
namespace Go.Proofs.Ytjnglahjngiofaa
open Go.RowKit

theorem below_new {w w1 : World} {o : Obj} (h : Below (w.alloc o).heap.size (w.alloc o) w1) : Below w.heap.size w w1 :=
  ((Below.refl w.heap.size w).alloc (Nat.le_refl _) o).trans (h.mono (by simp))
theorem size_new (w : World) (o : Obj) : (w.alloc o).heap.size = w.heap.size + 1 := by simp
end Go.Proofs.Ytjnglahjngiofaa
namespace Go.Proofs.Ytjnglahjngiofaa
open Go.RowKit
set_option maxRecDepth 100000

theorem zeroCells_int (k : Nat) : Builtin.zeroCells #[Value.int .i64 0] k = (List.replicate k (Value.int .i64 0)).toArray := by
  apply Array.ext
  · simp [Builtin.zeroCells]
  · intro i h1 h2
    simp [Builtin.zeroCells, Nat.mod_one]

theorem run_append_zeros (w : World) (base : Nat) (v : Value) (n : Nat) (xs : List Value) (hown : w.ownsRow base 3 1 v n xs) (k : Nat) (h1 : 1 ≤ k) (h2 : n + k ≤ 1000000) (hbase : base ≤ w.heap.size) (ty : TypeId) :
    ∃ v' w', (Builtin.append_ #[22, 3] ty #[v, .int .i64 (k : Int)]).run Try.prog w = .ok v' w' ∧ w'.ownsRow base 3 1 v' (n + k) (xs ++ List.replicate k (.int .i64 0)) ∧ w.grownBy w' v.ownBlock := by
  obtain ⟨i0, hi, hz0, hz1, hz2⟩ := info_parts info_int
  have hi' : Try.prog.info? 3 = some i0 := hi
  have ht : Try.prog.underlying 22 = some (.slice 3) := Try.underlying22
  have htn : Try.prog.underlying 3 = some (.int .i64) := Try.underlying3
  have hlen : (xs ++ List.replicate k (Value.int .i64 0)).length = (n + k) * 1 := by rw [List.length_append, hown.1, List.length_replicate]; omega
  have grown : ∀ (old : Nat), old < n + k → ∀ (row : Option Nat),
      (w.drew.alloc (.cells (xs.toArray ++ (List.replicate k (Value.int .i64 0)).toArray ++ Builtin.zeroCells #[Value.int .i64 0] (grownCap w (n + k) old 3 - (n + k))) 3)).ownsRow base 3 1
        (.slice (some ⟨w.heap.size, 0, none⟩) (n + k) (grownCap w (n + k) old 3)) (n + k) (xs ++ List.replicate k (.int .i64 0)) ∧
      w.grownBy (w.drew.alloc (.cells (xs.toArray ++ (List.replicate k (Value.int .i64 0)).toArray ++ Builtin.zeroCells #[Value.int .i64 0] (grownCap w (n + k) old 3 - (n + k))) 3)) row := by
    intro old ho row
    have hge := grownCap_ge w (n + k) old 3
    have hcm : grownCap w (n + k) old 3 ≤ maxLen := grownCap_le_maxLen w (n + k) old 3 (by unfold maxLen; omega)
    refine ⟨⟨hlen, .inr ⟨w.heap.size, _, _, rfl, hbase, heap_alloc_new w.drew _, hge, hcm, ?_, ?_⟩⟩, ⟨rfl, rfl, rfl, by simp, fun g hg _ => heap_alloc_old w.drew _ hg⟩⟩
    · have hx := hown.1
      rw [Array.size_append, Array.size_append, size_zeroCells, List.size_toArray, List.size_toArray, List.length_replicate]
      show xs.length + k + (grownCap w (n + k) old 3 - (n + k)) * 1 = _
      omega
    · simp only [Array.toList_append, List.append_assoc]
      rw [← List.append_assoc, ← hlen]
      exact List.take_left
  rcases hown.2 with ⟨rfl, rfl⟩ | ⟨g, cap, cur, rfl, hbg, hg, hnc, hcm, hcs, htake⟩
  · have hx : xs = [] := List.eq_nil_of_length_eq_zero (by simpa using hown.1)
    subst hx
    have hr := Lib.run_append_nil_zeros (P := Try.prog) w 22 3 ty 3 i0 (.int .i64 0) .i64 .i64 ht htn hi' hz0 k (by omega) (by omega) (by omega) (by rw [hz2]; omega)
    have hgr := grown 0 (by omega) (Value.ownBlock (.slice none 0 0))
    have ec : (Value.int IntKind.i64 0).cells = #[Value.int .i64 0] := rfl
    rw [ec, zeroCells_int k] at hr
    simp only [Nat.zero_add, List.nil_append, Array.empty_append] at hgr ⊢
    exact ⟨_, _, hr, hgr.1, hgr.2⟩
  · obtain ⟨G, hG⟩ : ∃ G, G = g := ⟨g, rfl⟩
    subst hG
    have hwk : IntKind.i64.wrap (k : Int) = (k : Int) := IntWalk.i64_in _ (by omega)
    have hneg : ¬ ((k : Int) < 0) := by omega
    have h48i : ¬ (281474976710656 < (k : Int) * 8) := by omega
    have hk0 : ¬ (k * 1 = 0) := by omega
    have hk : ¬ k = 0 := by omega
    have ec : (Value.int IntKind.i64 0).cells = #[Value.int .i64 0] := rfl
    by_cases hroom : n + k ≤ cap
    · have hst := run_storeCells_at Try.prog G (n * 1) 3 (List.replicate k (Value.int .i64 0)) 0 cur w hg (by rw [List.length_replicate, hcs]; omega) (by intro u hu; rw [List.eq_of_mem_replicate hu]; rfl)
      simp only [Nat.add_zero, Nat.mul_one] at hst
      have hr : (Builtin.append_ #[22, 3] ty #[.slice (some ⟨G, 0, none⟩) n cap, .int .i64 (k : Int)]).run Try.prog w = .ok (.slice (some ⟨G, 0, none⟩) (n + k) cap) (w.setRow G (cur.toList.take n ++ List.replicate k (Value.int .i64 0) ++ cur.toList.drop (n + (List.replicate k (Value.int .i64 0)).length)).toArray) := by
        simp [Builtin.append_, run_underlying ht, run_underlying htn, sizeOf, typeInfo, zeroValue, hi', hz0, hz1, hz2, asInt, asIntOf, hwk, hneg, h48i, hk, hroom, ec, zeroCells_int, Addr.add_lit]
        rw [hst]
        simp [Result.andThen]
      refine ⟨_, _, hr, ⟨hlen, .inr ⟨G, cap, _, rfl, hbg, setRow_heap w G cur _ 3 _ hg, hroom, hcm, ?_, ?_⟩⟩, ⟨rfl, rfl, rfl, by simp, fun j _ hj => setRow_other w G j _ (fun e => hj (by simp [Value.ownBlock, e]))⟩⟩
      · simp only [List.size_toArray, List.length_append, List.length_take, List.length_drop, Array.length_toList, List.length_replicate]
        omega
      · have hx := hown.1
        rw [Nat.mul_one] at htake
        rw [htake, ← hlen]
        exact List.take_left
    · have holds : ∀ j u, xs[j]? = some u → w.cell? ((⟨G, 0, none⟩ : Addr).add j) = some u := hown.cells (g := G) rfl
      have hgr := grown cap (by omega) (Value.ownBlock (.slice (some ⟨G, 0, none⟩) n cap))
      have hfo := run_firstCells_some (P := Try.prog) w.drew 1 n ⟨G, 0, none⟩ n cap xs hown.1 (by simpa using holds)
      have hfit := growslice_fits (need := n + k) (old := cap) (bytes := 8) (by omega) (by omega)
      have h48' : ¬ (281474976710656 < Builtin.nextslicecap (n + k) cap * 8) := by omega
      have h63' : ¬ (9223372036854775807 < ((n : Int) + (k : Int))) := by omega
      have hr : (Builtin.append_ #[22, 3] ty #[.slice (some ⟨G, 0, none⟩) n cap, .int .i64 (k : Int)]).run Try.prog w = .ok (.slice (some ⟨w.heap.size, 0, none⟩) (n + k) (grownCap w (n + k) cap 3)) (w.drew.alloc (.cells (xs.toArray ++ (List.replicate k (Value.int .i64 0)).toArray ++ Builtin.zeroCells #[Value.int .i64 0] (grownCap w (n + k) cap 3 - (n + k))) 3)) := by
        simp [Builtin.append_, run_underlying ht, run_underlying htn, sizeOf, typeInfo, zeroValue, hi', hz0, hz1, hz2, asInt, asIntOf, hwk, hneg, h48i, hk, hroom, ec, zeroCells_int, Builtin.lenOf, h63', h48', Question.forced, hfo, newRow, grownCap]
      exact ⟨_, _, hr, hgr.1, hgr.2⟩
/-- As an operation of the walk. -/
theorem wpList_append_zeros {ops : Array Oper} {rest : List Oper} {o : Oper} {a : Act} {Q : Exit → Act → World → Prop} {w : World} (hgd : o.guard = none) (s x : Operand)
    (ho : o.op = .call { callee := .builtin .append, args := #[s, x], argTypes := #[22, 3] })
    (base : Nat) (v : Value) (n : Nat) (xs : List Value) (hown : w.ownsRow base 3 1 v n xs) (hs : a.eval s = v) (k : Nat) (hx : a.eval x = .int .i64 (k : Int)) (h1 : 1 ≤ k) (h2 : n + k ≤ 1000000) (hbase : base ≤ w.heap.size)
    (h : ∀ v' w', w'.ownsRow base 3 1 v' (n + k) (xs ++ List.replicate k (.int .i64 0)) → w.grownBy w' v.ownBlock → wpList Try.prog ops Q rest (a.put o.dst v') w') :
    wpList Try.prog ops Q (o :: rest) a w := by
  obtain ⟨v', w', hr, h3, h4⟩ := run_append_zeros w base v n xs hown k h1 h2 hbase o.type
  exact Lib.wpList_append_run w hgd s x 22 3 ho v _ hs hx v' w' hr (h v' w' h3 h4)
end Go.Proofs.Ytjnglahjngiofaa
namespace Go.Proofs.Ytjnglahjngiofaa
open Go.RowKit
set_option maxRecDepth 100000

theorem grow_nil (n : Nat) (h1 : 1 ≤ n) (h2 : n ≤ 1000) (w : World) :
    Calls Try.prog 79 #[.slice none 0 0, .int .i64 (n : Int)] w fun e w' => ∃ g cap, e = .returned (.slice (some ⟨g, 0, none⟩) 0 cap) ∧ w'.ownsRow w.heap.size 3 1 (.slice (some ⟨g, 0, none⟩) 0 cap) 0 [] ∧ Below w.heap.size w w' := by
  have d0 : decide ((n : Int) < 0) = false := by rw [decide_eq_false_iff_not]; omega
  have d1 : decide ((0 : Int) < (n : Int)) = true := by rw [decide_eq_true_eq]; omega
  have d1b : decide (0 < n) = true := by rw [decide_eq_true_eq]; omega
  have hw : IntKind.i64.wrap (n : Int) = (n : Int) := IntWalk.i64_in _ (by omega)
  have hn0 : w.ownsRow w.heap.size 3 1 (.slice none 0 0) 0 [] := World.ownsRow_nil w _ _ _
  go_enter Try.func79, Try.ntmps79
  go_wp2_with (at_builtin; go_must (refine wpList_append_zeros rfl (.tmp 20) (.tmp 21) rfl w.heap.size (.slice none 0 0) 0 [] hn0 rfl n rfl h1 ?_ (Nat.le_refl _) ?_; omega; intro v w1 ho hg; rw [Nat.zero_add] at ho; obtain ⟨g, cap, rfl, hgb, _⟩ := World.ownsRow.form ho (by omega); have HO := Lib.hid ho; have Hg := Lib.hid hg; clear ho hg hn0))
  go_ret
  refine ⟨g, cap, rfl, ?_, ⟨Hg.out.os, Hg.out.tape, Hg.out.output, Hg.out.size, fun j hj => Hg.out.block j hj (fun e => by cases e)⟩⟩
  rcases HO.out.2 with ⟨h, _⟩ | ⟨g', cap', cur, h, a1, a2, a3, a4, a5, _⟩
  · cases h
  · injection h with h3 h4 h5
    injection h3 with h3
    injection h3 with h3
    subst h3 h5
    exact ⟨rfl, .inr ⟨g, cap, cur, rfl, a1, a2, Nat.zero_le _, a4, a5, rfl⟩⟩

/-- How many stand in the first j parts. -/
def totN (ns : Nat → Nat) : Nat → Nat
  | 0 => 0
  | j + 1 => totN ns j + ns j
theorem totN_le (ns : Nat → Nat) (K : Nat) (h : ∀ j, j < K → ns j ≤ 1000) : ∀ j, j ≤ K → totN ns j ≤ 1000 * j := by
  intro j
  induction j with
  | zero => intro _; exact Nat.zero_le _
  | succ j ih =>
    intro hj
    have h1 := ih (by omega)
    have h2 := h j (by omega)
    show totN ns j + ns j ≤ _
    omega
theorem icells_join (n k : Nat) (m m1 : Nat → Int) (h : ∀ i, i < k → m (n + i) = m1 i) : icells n m ++ icells k m1 = icells (n + k) m := by
  apply List.ext_getElem?
  intro j
  by_cases h1 : j < n
  · rw [List.getElem?_append_left (by rw [icells_length]; exact h1), icells_at _ _ _ h1, icells_at _ _ _ (by omega)]
  · rw [List.getElem?_append_right (by rw [icells_length]; omega), icells_length]
    by_cases h2 : j < n + k
    · rw [icells_at _ _ _ (by omega), icells_at _ _ _ h2, ← h (j - n) (by omega), show n + (j - n) = j by omega]
    · rw [List.getElem?_eq_none (by rw [icells_length]; omega), List.getElem?_eq_none (by rw [icells_length]; omega)]

set_option maxHeartbeats 4000000 in
theorem concat_any (K : Nat) (h1 : 1 ≤ K) (h2 : K ≤ 8) (ns gs : Nat → Nat) (vs : Nat → Int) (m : Nat → Int) (hns : ∀ j, j < K → 1 ≤ ns j ∧ ns j ≤ 1000) (hm : ∀ j, j < K → ∀ i, i < ns j → m (totN ns j + i) = vs j) (htot : totN ns K ≤ 1000) (G off cap : Nat) (w : World)
    (hG : G < w.heap.size) (hcell : ∀ j, j < K → w.cell? ⟨G, off + j, none⟩ = some (.slice (some ⟨gs j, 0, none⟩) (ns j) (ns j))) (hrow : ∀ j, j < K → IRow w (some ⟨gs j, 0, none⟩) (ns j) (fun _ => vs j)) :
    Calls Try.prog 59 #[.slice (some ⟨G, off, none⟩) K cap] w fun e w' => ∃ g cap', e = .returned (.slice (some ⟨g, 0, none⟩) (totN ns K) cap') ∧ w'.ownsRow w.heap.size 3 1 (.slice (some ⟨g, 0, none⟩) (totN ns K) cap') (totN ns K) (icells (totN ns K) m) ∧ Below w.heap.size w w' := by
  have hle := totN_le ns K (fun j hj => (hns j hj).2)
  have hpos : 1 ≤ totN ns K := by
    have h3 := (hns 0 (by omega)).1
    have : ∀ j, 1 ≤ j → j ≤ K → 1 ≤ totN ns j := by
      intro j
      induction j with
      | zero => intro h _; omega
      | succ j ih =>
        intro _ hj
        by_cases h0 : j = 0
        · subst h0; show 1 ≤ 0 + ns 0; omega
        · have := ih (by omega) (by omega)
          show 1 ≤ totN ns j + ns j
          omega
    exact this K h1 (Nat.le_refl _)
  have CG := Lib.hid (fun W => grow_nil (totN ns K) hpos htot W)
  have Hle := Lib.hid hle
  have Hns := Lib.hid hns
  have Hm := Lib.hid hm
  have Hcell := Lib.hid hcell
  have Hrow := Lib.hid hrow
  obtain ⟨T, HT⟩ : ∃ T, Hid (totN ns K = T) := ⟨_, Lib.hid (Eq.refl _)⟩
  rw [HT.out] at CG htot hpos ⊢
  obtain ⟨B, HBs⟩ : ∃ B, Hid (w.heap.size = B) := ⟨_, Lib.hid (Eq.refl _)⟩
  rw [HBs.out]
  clear hle hns hm hcell hrow
  go_enter Try.func59, Try.ntmps59
  go_wp2_with fail
  go_loopw [3, 11] (fun z_ j_ wr => ∃ j z : Nat, j ≤ K ∧ z_ = .int .i64 (z : Int) ∧ j_ = .int .i64 (j : Int) ∧ Hid (totN ns j = z) ∧ wr = w) (fun _ j _ => K - (intOf j).toNat)
  case atStart => exact ⟨0, 0, by omega, rfl, rfl, rfl, rfl⟩
  case round =>
    obtain ⟨j, z, hj, rfl, rfl, Hz, hwr⟩ := hrel
    have hwr2 := hwr.symm
    subst hwr2
    clear hwr
    have hzl : z ≤ 8000 := by have := Hle.out j hj; rw [Hz.out] at this; omega
    by_cases hlt : j < K
    · have dk : decide ((j : Int) < (K : Int)) = true := by rw [decide_eq_true_eq]; omega
      have hc := Hcell.out j hlt
      have hn := Hns.out j hlt
      obtain ⟨N, HN⟩ : ∃ N, Hid (ns j = N) := ⟨_, Lib.hid (Eq.refl _)⟩
      rw [HN.out] at hn hc
      have hw : IntKind.i64.wrap ((z : Int) + (N : Int)) = (z : Int) + (N : Int) := IntWalk.i64_in _ (by omega)
      have dn : decide ((z : Int) + (N : Int) < 0) = false := by rw [decide_eq_false_iff_not]; omega
      have Hz2 : Hid (totN ns (j + 1) = z + N) := by show totN ns j + ns j = _; rw [Hz.out, HN.out]
      go_wp2_with fail
      go_roundw
      case rel => exact ⟨j + 1, z + N, by omega, by go_num, by go_num, Hz2, (by first | rfl | trivial)⟩
      case measure => simp [intOf]; omega
    · obtain rfl : j = K := by omega
      have dk : decide ((j : Int) < (j : Int)) = false := by rw [decide_eq_false_iff_not]; omega
      obtain rfl : z = T := by rw [← Hz.out]; exact HT.out
      go_wp2_with fail
      refine (CG.out _).mono ?_
      rintro e w1 ⟨g, cp, rfl, ho, hb⟩
      have ho0 : w.ownsRow w.heap.size 3 1 (.slice none 0 0) 0 [] := World.ownsRow_nil _ _ _ _
      have HO := Lib.hid ho
      have HB := Lib.hid hb
      rw [HBs.out] at HO HB
      have HGB : G < B := by rw [← HBs.out]; exact hG
      have HO0 : Hid (w1.ownsRow B 3 1 (.slice (some ⟨g, 0, none⟩) (totN ns 0) cp) (totN ns 0) (icells (totN ns 0) m)) := HO.out
      clear ho hb ho0 HO
      go_wp2_with fail
      go_loopw [6, 27] (fun v_ j_ ws => ∃ (k g cp : Nat), k ≤ j ∧ v_ = .slice (some ⟨g, 0, none⟩) (totN ns k) cp ∧ j_ = .int .i64 (k : Int) ∧ Hid (ws.ownsRow B 3 1 (.slice (some ⟨g, 0, none⟩) (totN ns k) cp) (totN ns k) (icells (totN ns k) m)) ∧ Hid (Below B w ws)) (fun _ k _ => j - (intOf k).toNat)
      case atStart => exact ⟨0, g, cp, by omega, rfl, rfl, HO0, HB⟩
      case round =>
        clear HO0 HB
        obtain ⟨k, g2, cp2, hk, rfl, rfl, HO, HB⟩ := hrel
        by_cases hlt2 : k < j
        · have dk2 : decide ((k : Int) < (j : Int)) = true := by rw [decide_eq_true_eq]; omega
          have hc := (HB.out.cell (p := ⟨G, off + k, none⟩) HGB).trans (Hcell.out k hlt2)
          have hrw := Hrow.out k hlt2
          have hn := Hns.out k hlt2
          have htk : totN ns (k + 1) ≤ 8000 := by have := Hle.out (k + 1) (by omega); omega
          have hjoin : icells (totN ns k) m ++ icells (ns k) (fun _ => vs k) = icells (totN ns (k + 1)) m := icells_join (totN ns k) (ns k) m (fun _ => vs k) (Hm.out k hlt2)
          obtain ⟨N, HN⟩ : ∃ N, Hid (ns k = N) := ⟨_, Lib.hid (Eq.refl _)⟩
          obtain ⟨V, HV⟩ : ∃ N, Hid (vs k = N) := ⟨_, Lib.hid (Eq.refl _)⟩
          obtain ⟨Z, HZ⟩ : ∃ N, Hid (totN ns k = N) := ⟨_, Lib.hid (Eq.refl _)⟩
          obtain ⟨Z2, HZ2⟩ : ∃ N, Hid (totN ns (k + 1) = N) := ⟨_, Lib.hid (Eq.refl _)⟩
          have hz2 : Z + N = Z2 := by rw [← HZ2.out, ← HZ.out, ← HN.out]; rfl
          have Hz2 := Lib.hid hz2
          obtain ⟨q, Hq⟩ : ∃ N, Hid (gs k = N) := ⟨_, Lib.hid (Eq.refl _)⟩
          rw [HN.out] at hn hc hrw hjoin
          rw [Hq.out] at hc hrw
          rw [HV.out] at hrw hjoin
          rw [HZ.out] at HO hjoin ⊢
          rw [HZ2.out] at htk hjoin
          have hr2 : IRow wr (some ⟨q, 0, none⟩) N (fun _ => V) := hrw.below (HBs.out ▸ HB.out)
          have hos := HO.out
          have hbsz : B ≤ wr.heap.size := by have := HB.out.size; have := HBs.out; omega
          have Hjoin := Lib.hid hjoin
          clear hrw hz2 hjoin
          go_wp2_with (at_builtin; go_must (refine wpList_append_irow rfl (.tmp 31) (.tmp 32) rfl B _ Z m hos rfl (some ⟨q, 0, none⟩) N N (fun _ => V) rfl hr2 ?_ ?_ hbsz ?_; (intro e; cases e); (have := Hz2.out; omega); intro v5 w5 ho5 hg5 hne5; rw [Hz2.out, Hjoin.out] at ho5; obtain ⟨g5, cp5, rfl, _⟩ := World.ownsRow.form ho5 (by have := Hz2.out; omega); have HO5 := Lib.hid ho5; have HB5 : Hid (Below B w w5) := Lib.hid (HB.out.grown hg5 hbsz (fun g e => (World.ownsRow.lt hos g e).1)); clear ho5 hg5 hne5 hos hr2 hc))
          go_roundw
          case rel => exact ⟨k + 1, g5, cp5, by omega, by rw [HZ2.out], by go_num, by rw [HZ2.out]; exact HO5, HB5⟩
          case measure => simp [intOf]; omega
        · obtain rfl : k = j := by omega
          have dk2 : decide ((k : Int) < (k : Int)) = false := by rw [decide_eq_false_iff_not]; omega
          rw [HT.out] at HO ⊢
          go_wp2_with fail
          go_ret
          exact ⟨g2, cp2, rfl, HO.out, HB.out⟩
end Go.Proofs.Ytjnglahjngiofaa
namespace Go.Proofs.Ytjnglahjngiofaa
open Go.RowKit
set_option maxRecDepth 100000

theorem mul64_one (c : Nat) (hc : c < 4294967296) (w : World) : Calls Try.prog 90 #[.int .u64 1, .int .u64 (c : Int)] w fun e w' => e = .returned (.tuple #[.int .u64 0, .int .u64 (c : Int)]) ∧ w = w' := by
  have h1 : bits .and .u64 (c : Int) 4294967295 = (c : Int) := by
    have h := mask64 c 32 (by omega) (by decide)
    rw [show ((2 : Int) ^ 32 - 1) = 4294967295 by decide] at h
    rw [h, Nat.mod_eq_of_lt (by omega)]
  have h2 : bits .and .u64 1 4294967295 = 1 := by decide
  have h3 : (c : Int) / 4294967296 = 0 := by omega
  have h4 : (c : Int) % 18446744073709551616 = (c : Int) := by omega
  have hw : IntKind.u64.wrap (c : Int) = (c : Int) := by rw [IntKind.wrap_u64]; omega
  go_enter Try.func90, Try.ntmps90
  go_wp2_with fail
  go_ret2
  exact ⟨rfl, rfl⟩
end Go.Proofs.Ytjnglahjngiofaa
namespace Go.Proofs.Ytjnglahjngiofaa
open Go.RowKit
set_option maxRecDepth 100000

theorem mul_one (c : Nat) (hc : c < 4294967296) (w : World) : Calls Try.prog 80 #[.int .u64 1, .int .u64 (c : Int)] w fun e w' => e = .returned (.tuple #[.int .u64 0, .int .u64 (c : Int)]) ∧ w = w' := by
  have C := Lib.hid (fun W => mul64_one c hc W)
  have h4 : (c : Int) % 18446744073709551616 = (c : Int) := by omega
  go_enter Try.func80, Try.ntmps80
  go_wp2_with fail
  refine (C.out _).mono ?_
  rintro e w1 ⟨rfl, rfl⟩
  go_wp2_with fail
  go_ret2
  exact ⟨rfl, rfl⟩

/-- c cells: n times v, then noughts. -/
def rl (c : Nat) (v : Int) (n : Nat) : List Value := (List.range c).map fun j => .int .i64 (if j < n then v else 0)
theorem rl_length (c : Nat) (v : Int) (n : Nat) : (rl c v n).length = c := by simp [rl]
theorem rl_at (c : Nat) (v : Int) (n j : Nat) (h : j < c) : (rl c v n)[j]? = some (.int .i64 (if j < n then v else 0)) := by simp [rl, h]
theorem rl_splice (c : Nat) (v : Int) (n q : Nat) (h : n + q ≤ c) : splice (rl c v n) n (List.replicate q (.int .i64 v)) = rl c v (n + q) := by
  apply List.ext_getElem?
  intro j
  unfold splice
  by_cases h1 : j < n
  · rw [List.getElem?_append_left (by rw [List.length_take, rl_length]; omega), List.getElem?_take_of_lt h1, rl_at _ _ _ _ (by omega), rl_at _ _ _ _ (by omega), if_pos h1, if_pos (by omega)]
  · rw [List.getElem?_append_right (by rw [List.length_take, rl_length]; omega), List.length_take, rl_length, Nat.min_eq_left (by omega)]
    by_cases h2 : j < n + q
    · rw [List.getElem?_append_left (by rw [List.length_replicate]; omega), rl_at _ _ _ _ (by omega), if_pos h2, List.getElem?_replicate, if_pos (by omega)]
    · rw [List.getElem?_append_right (by rw [List.length_replicate]; omega), List.length_replicate, List.getElem?_drop]
      rw [show n + q + (j - n - q) = j by omega]
      by_cases h3 : j < c
      · rw [rl_at _ _ _ _ h3, rl_at _ _ _ _ h3, if_neg h1, if_neg h2]
      · rw [List.getElem?_eq_none (by rw [rl_length]; omega), List.getElem?_eq_none (by rw [rl_length]; omega)]
theorem rl_first (c : Nat) (v : Int) (h : 1 ≤ c) : splice (rl c v 0) 0 [.int .i64 v] = rl c v 1 := by
  have := rl_splice c v 0 1 (by omega)
  simpa using this
theorem size_int : (Try.prog.info? 3).map (·.size) = some 1 := by kernel_rfl

/-- copy within or into such a row. -/
theorem copy_rl (c : Nat) (v : Int) (n q G : Nat) (h : n + q ≤ c) (dLen dCap sLen sCap : Nat) (hq : Nat.min sLen dLen = q) (b off : Nat) (w W : World) (hG : Blk W G 3 (rl c v n).toArray) (hb : Below w.heap.size w W) (hwG : w.heap.size ≤ G)
    (hs : ∀ j, j < q → W.cell? ⟨b, off + j, none⟩ = some (.int .i64 v)) :
    ∃ W2, (Builtin.copy_ #[22, 22] 3 #[.slice (some ⟨G, n, none⟩) dLen dCap, .slice (some ⟨b, off, none⟩) sLen sCap]).run Try.prog W = .ok (.int .i64 (q : Int)) W2 ∧ Blk W2 G 3 (rl c v (n + q)).toArray ∧ Below w.heap.size w W2 := by
  have hrun := run_copy_row (P := Try.prog) W 22 22 3 3 G n dLen dCap ⟨b, off, none⟩ sLen sCap (rl c v n).toArray 3 (List.replicate q (.int .i64 v)) Try.underlying22 size_int hG (by rw [List.length_replicate, hq])
    (by
      intro j u hj
      have hjq : j < q := by
        have := (List.getElem?_eq_some_iff.1 hj).1
        simpa using this
      have e : (⟨b, off, none⟩ : Addr).add j = ⟨b, off + j, none⟩ := by unfold Addr.add; split <;> simp_all
      rw [e, hs j hjq]
      rw [List.getElem?_replicate, if_pos hjq] at hj
      exact hj)
    (by simp [rl_length]; omega) (by intro u hu; rw [List.eq_of_mem_replicate hu]; rfl)
  have e : ((rl c v n).toArray.toList.take n ++ List.replicate q (.int .i64 v) ++ (rl c v n).toArray.toList.drop (n + (List.replicate q (Value.int .i64 v)).length)) = rl c v (n + q) := by
    rw [← rl_splice c v n q h, List.append_assoc]
    rfl
  rw [e, List.length_replicate] at hrun
  exact ⟨_, hrun, setRow_heap W G _ _ 3 _ hG, below_setRow hb hwG _⟩

set_option maxHeartbeats 4000000 in
theorem repeat_any (v : Int) (c : Nat) (h1 : 1 ≤ c) (h2 : c ≤ 1000) (b off cap : Nat) (w : World) (hc : w.cell? ⟨b, off, none⟩ = some (.int .i64 v)) :
    Calls Try.prog 60 #[.slice (some ⟨b, off, none⟩) 1 cap, .int .i64 (c : Int)] w fun e w' => e = .returned (.slice (some ⟨w.heap.size, 0, none⟩) c c) ∧ Blk w' w.heap.size 3 (rl c v c).toArray ∧ Below w.heap.size w w' := by
  have CM := Lib.hid (fun W => mul_one c (by omega) W)
  have d0 : decide ((c : Int) < 0) = false := by rw [decide_eq_false_iff_not]; omega
  have d1 : decide ((9223372036854775807 : Int) < (c : Int)) = false := by rw [decide_eq_false_iff_not]; omega
  have d1b : decide (9223372036854775807 < c) = false := by rw [decide_eq_false_iff_not]; omega
  have h4 : (c : Int) % 18446744073709551616 = (c : Int) := by omega
  have hw : IntKind.i64.wrap (c : Int) = (c : Int) := IntWalk.i64_in _ (by omega)
  have hmk := run_make_f (t := 22) (e := 3) Try.underlying22 info_int rfl c (c : Int) rfl (by omega) (by omega) w
  have e0 : fcells c (fun _ => Value.int .i64 0) = (rl c v 0).toArray := by unfold fcells rl; congr 1
  rw [e0] at hmk
  have hB0 := Blk.new w 3 (rl c v 0).toArray
  have hb0 := (Below.refl w.heap.size w).alloc (Nat.le_refl _) (.cells (rl c v 0).toArray 3)
  have hblt : b < w.heap.size := by
    rcases Nat.lt_or_ge b w.heap.size with h | h
    · exact h
    · unfold World.cell? at hc; simp [Array.getElem?_eq_none h] at hc
  have hc1 : (w.alloc (.cells (rl c v 0).toArray 3)).cell? ⟨b, off, none⟩ = some (.int .i64 v) := (Below.cell hb0 (p := ⟨b, off, none⟩) hblt).trans hc
  have hsr : ∀ j, j < 1 → (w.alloc (.cells (rl c v 0).toArray 3)).cell? ⟨b, off + j, none⟩ = some (.int .i64 v) := by
    intro j hj
    obtain rfl : j = 0 := by omega
    exact hc1
  obtain ⟨W2, hcp, hB2, hb2⟩ := copy_rl c v 0 1 w.heap.size (by omega) c c 1 cap (by show min 1 c = 1; omega) b off w _ hB0 hb0 (Nat.le_refl _) hsr
  obtain ⟨G, HG⟩ : ∃ P, Hid (w.heap.size = P) := ⟨_, Lib.hid (Eq.refl _)⟩
  rw [HG.out] at hB2 hmk hcp ⊢
  rw [Nat.zero_add] at hB2
  have HB2 := Lib.hid hB2
  have Hb2 := Lib.hid hb2
  clear hB0 hb0 hc1 e0 hc hblt hB2 hb2 hsr
  go_enter Try.func60, Try.ntmps60
  go_wp2_with fail
  refine (CM.out _).mono ?_
  rintro e w1 ⟨rfl, rfl⟩
  go_wp2_with fail
  clear hcp hmk
  go_loopw [8] (fun n_ wr => ∃ n : Nat, 1 ≤ n ∧ n ≤ c ∧ n_ = .int .i64 (n : Int) ∧ Hid (Blk wr G 3 (rl c v n).toArray) ∧ Hid (Below w.heap.size w wr)) (fun n _ => c - (intOf n).toNat)
  case atStart => exact ⟨1, by omega, by omega, rfl, HB2, Hb2⟩
  case round =>
    clear HB2 Hb2
    obtain ⟨n, hn1, hnc, rfl, HB, Hb⟩ := hrel
    by_cases hlt : n < c
    · have dk : decide ((n : Int) < (c : Int)) = true := by rw [decide_eq_true_eq]; omega
      obtain ⟨q, Hq⟩ : ∃ q, Hid (Nat.min n (c - n) = q) := ⟨_, Lib.hid (Eq.refl _)⟩
      have hq1 : 1 ≤ q ∧ n + q ≤ c := by have h : min n (c - n) = q := Hq.out; omega
      have hqI : IntKind.i64.wrap ((n : Int) + (q : Int)) = (n : Int) + (q : Int) := IntWalk.i64_in _ (by omega)
      obtain ⟨W3, hcp, hB3, hb3⟩ := copy_rl c v n q G hq1.2 (c - n) (c - n) n c Hq.out G 0 w wr.drew HB.out Hb.out.drew (by rw [HG.out]; exact Nat.le_refl _) (fun j hj => by
        have h1 := Blk.cell HB.out (0 + j)
        have h2 : j < n := by have h : min n (c - n) = q := Hq.out; omega
        rw [Nat.zero_add, List.getElem?_toArray, rl_at c v n j (by omega), if_pos h2] at h1
        rw [Nat.zero_add]
        exact h1)
      have HB3 := Lib.hid hB3
      have Hb3 := Lib.hid hb3
      clear hB3 hb3
      go_wp2_with fail
      go_region
      all_goals
        go_wp2_with fail
        go_roundw
        case rel => exact ⟨n + q, by omega, by omega, by go_num, HB3, Hb3⟩
        case measure => simp [intOf]; omega
    · obtain rfl : n = c := by omega
      have dk : decide ((n : Int) < (n : Int)) = false := by rw [decide_eq_false_iff_not]; omega
      go_wp2_with fail
      go_ret
      exact ⟨rfl, HB.out, by rw [← HG.out]; exact Hb.out⟩
end Go.Proofs.Ytjnglahjngiofaa
namespace Go.Proofs.Ytjnglahjngiofaa
open Go.RowKit
set_option maxRecDepth 100000

/-- The lengths of a fixed block. -/
def fixL (i : Nat) : Int := if i < 144 then 8 else if i < 256 then 9 else if i < 280 then 7 else 8
def fixN (j : Nat) : Nat := if j = 0 then 144 else if j = 1 then 112 else if j = 2 then 24 else 8
def fixV (j : Nat) : Int := if j = 0 then 8 else if j = 1 then 9 else if j = 2 then 7 else 8
theorem fix_parts : ∀ j, j < 4 → ∀ i, i < fixN j → fixL (totN fixN j + i) = fixV j := by
  intro j hj i hi
  rcases show j = 0 ∨ j = 1 ∨ j = 2 ∨ j = 3 by omega with rfl | rfl | rfl | rfl
  · have hi' : i < 144 := hi
    show fixL (0 + i) = 8
    unfold fixL
    rw [if_pos (by omega)]
  · have hi' : i < 112 := hi
    show fixL (144 + i) = 9
    unfold fixL
    rw [if_neg (by omega), if_pos (by omega)]
  · have hi' : i < 24 := hi
    show fixL (256 + i) = 7
    unfold fixL
    rw [if_neg (by omega), if_neg (by omega), if_pos (by omega)]
  · have hi' : i < 8 := hi
    show fixL (280 + i) = 8
    unfold fixL
    rw [if_neg (by omega), if_neg (by omega), if_neg (by omega)]
theorem rl_row {w : World} {g c : Nat} {v : Int} (h : Blk w g 3 (rl c v c).toArray) : IRow w (some ⟨g, 0, none⟩) c (fun _ => v) := by
  refine .inr ⟨g, 0, rfl, h.lt, fun i hi => ?_⟩
  rw [h.cell (0 + i), Nat.zero_add, List.getElem?_toArray, rl_at c v c i hi, if_pos hi]
theorem repeat_row (v : Int) (c : Nat) (h1 : 1 ≤ c) (h2 : c ≤ 1000) (b : Nat) (w : World) (hB : Blk w b 3 #[.int .i64 v]) :
    Calls Try.prog 60 #[.slice (some ⟨b, 0, none⟩) 1 1, .int .i64 (c : Int)] w fun e w' => e = .returned (.slice (some ⟨w.heap.size, 0, none⟩) c c) ∧ IRow w' (some ⟨w.heap.size, 0, none⟩) c (fun _ => v) ∧ Below w.heap.size w w' :=
  (repeat_any v c h1 h2 b 0 1 w (by rw [hB.cell 0]; rfl)).mono fun _ _ ⟨h1, h2, h3⟩ => ⟨h1, rl_row h2, h3⟩
/-- Where the four parts lie. -/
def fixG (a b c d : Nat) (j : Nat) : Nat := if j = 0 then a else if j = 1 then b else if j = 2 then c else d

set_option maxHeartbeats 4000000 in
theorem lengths_any (w : World) : Calls Try.prog 31 #[] w fun e w' => ∃ g1 c1 g2, e = .returned (.tuple #[.slice (some ⟨g1, 0, none⟩) 288 c1, .slice (some ⟨g2, 0, none⟩) 32 32]) ∧ IRow w' (some ⟨g1, 0, none⟩) 288 fixL ∧ IRow w' (some ⟨g2, 0, none⟩) 32 (fun _ => 5) ∧ w.heap.size ≤ g1 ∧ w.heap.size ≤ g2 ∧ Below w.heap.size w w' := by
  go_enter Try.func31, Try.ntmps31
  go_wp2_with fail
  refine (repeat_row 8 144 (by decide) (by decide) _ _ (Blk.new _ _ _)).mono ?_
  rintro e w1 ⟨rfl, hR1, hb1⟩
  go_wp2_with fail
  refine (repeat_row 9 112 (by decide) (by decide) _ _ (Blk.new _ _ _)).mono ?_
  rintro e w2 ⟨rfl, hR2, hb2⟩
  go_wp2_with fail
  refine (repeat_row 7 24 (by decide) (by decide) _ _ (Blk.new _ _ _)).mono ?_
  rintro e w3 ⟨rfl, hR3, hb3⟩
  go_wp2_with fail
  refine (repeat_row 8 8 (by decide) (by decide) _ _ (Blk.new _ _ _)).mono ?_
  rintro e w4 ⟨rfl, hR4, hb4⟩
  go_wp2_with fail
  have b1 := below_new hb1
  have b2 := below_new hb2
  have b3 := below_new hb3
  have b4 := below_new hb4
  rw [size_new] at hR1 hR2 hR3 hR4
  have b5 : Below w4.heap.size w4 (w4.alloc (.cells #[.slice (some ⟨w.heap.size + 1, 0, none⟩) 144 144, .slice (some ⟨w1.heap.size + 1, 0, none⟩) 112 112, .slice (some ⟨w2.heap.size + 1, 0, none⟩) 24 24, .slice (some ⟨w3.heap.size + 1, 0, none⟩) 8 8] 22)) := (Below.refl w4.heap.size w4).alloc (Nat.le_refl _) _
  have hB5 := Blk.new w4 22 #[.slice (some ⟨w.heap.size + 1, 0, none⟩) 144 144, .slice (some ⟨w1.heap.size + 1, 0, none⟩) 112 112, .slice (some ⟨w2.heap.size + 1, 0, none⟩) 24 24, .slice (some ⟨w3.heap.size + 1, 0, none⟩) 8 8]
  obtain ⟨w5, HW5⟩ : ∃ W, Hid (w4.alloc (.cells #[.slice (some ⟨w.heap.size + 1, 0, none⟩) 144 144, .slice (some ⟨w1.heap.size + 1, 0, none⟩) 112 112, .slice (some ⟨w2.heap.size + 1, 0, none⟩) 24 24, .slice (some ⟨w3.heap.size + 1, 0, none⟩) 8 8] 22) = W) := ⟨_, Lib.hid (Eq.refl _)⟩
  rw [HW5.out] at b5 hB5 ⊢
  have r1 : IRow w5 (some ⟨w.heap.size + 1, 0, none⟩) 144 (fun _ => 8) := (((hR1.below b2).below b3).below b4).below b5
  have r2 : IRow w5 (some ⟨w1.heap.size + 1, 0, none⟩) 112 (fun _ => 9) := ((hR2.below b3).below b4).below b5
  have r3 : IRow w5 (some ⟨w2.heap.size + 1, 0, none⟩) 24 (fun _ => 7) := (hR3.below b4).below b5
  have r4 : IRow w5 (some ⟨w3.heap.size + 1, 0, none⟩) 8 (fun _ => 8) := hR4.below b5
  have CC := concat_any 4 (by decide) (by decide) fixN (fixG (w.heap.size + 1) (w1.heap.size + 1) (w2.heap.size + 1) (w3.heap.size + 1)) fixV fixL (by decide) fix_parts (by decide) w4.heap.size 0 4 w5 hB5.lt
    (by
      intro j hj
      rw [hB5.cell (0 + j)]
      rcases show j = 0 ∨ j = 1 ∨ j = 2 ∨ j = 3 by omega with rfl | rfl | rfl | rfl <;> rfl)
    (by
      intro j hj
      rcases show j = 0 ∨ j = 1 ∨ j = 2 ∨ j = 3 by omega with rfl | rfl | rfl | rfl
      · exact r1
      · exact r2
      · exact r3
      · exact r4)
  have et : totN fixN 4 = 288 := rfl
  rw [et] at CC
  have B5 : Below w.heap.size w w5 := bthen (bthen (bthen (bthen b1 b2) b3) b4) b5
  have HB5 := Lib.hid B5
  have HCC := Lib.hid CC
  clear r1 r2 r3 r4 hR1 hR2 hR3 hR4 hb1 hb2 hb3 hb4 b1 b2 b3 b4 b5 hB5 B5 CC et HW5
  refine HCC.out.mono ?_
  rintro e w6 ⟨g1, c1, rfl, ho6, hb6⟩
  have hg1 := (World.ownsRow.lt ho6 g1 (by simp [Value.ownBlock])).1
  have hg1b : w.heap.size ≤ g1 := Nat.le_trans HB5.out.size hg1
  have HI6 := Lib.hid (IRow.ofOwn ho6)
  have HB6 := Lib.hid (bthen HB5.out hb6)
  clear ho6 hb6 hg1 HCC HB5
  go_wp2_with fail
  refine (repeat_row 5 32 (by decide) (by decide) _ _ (Blk.new _ _ _)).mono ?_
  rintro e w7 ⟨rfl, hR7, hb7⟩
  have b7 := below_new hb7
  rw [size_new] at hR7
  have HB7 := Lib.hid (bthen HB6.out b7)
  have HI7 := Lib.hid (HI6.out.below b7)
  have HR7 := Lib.hid hR7
  have hg2 : w.heap.size ≤ w6.heap.size + 1 := Nat.le_succ_of_le HB6.out.size
  clear hb7 b7 hR7 HB6 HI6
  go_wp2_with fail
  go_ret2
  exact ⟨g1, c1, w6.heap.size + 1, rfl, HI7.out, HR7.out, hg1b, hg2, HB7.out⟩
theorem order_any (w : World) : Calls Try.prog 35 #[] w fun e w' => e = .returned (.slice (some ⟨w.heap.size, 0, none⟩) 19 19) ∧ Blk w' w.heap.size 3 #[.int .i64 16, .int .i64 17, .int .i64 18, .int .i64 0, .int .i64 8, .int .i64 7, .int .i64 9, .int .i64 6, .int .i64 10, .int .i64 5, .int .i64 11, .int .i64 4, .int .i64 12, .int .i64 3, .int .i64 13, .int .i64 2, .int .i64 14, .int .i64 1, .int .i64 15] ∧ Below w.heap.size w w' := by
  have hB := Blk.new w 3 #[.int .i64 16, .int .i64 17, .int .i64 18, .int .i64 0, .int .i64 8, .int .i64 7, .int .i64 9, .int .i64 6, .int .i64 10, .int .i64 5, .int .i64 11, .int .i64 4, .int .i64 12, .int .i64 3, .int .i64 13, .int .i64 2, .int .i64 14, .int .i64 1, .int .i64 15]
  have hb := (Below.refl w.heap.size w).alloc (Nat.le_refl _) (.cells #[.int .i64 16, .int .i64 17, .int .i64 18, .int .i64 0, .int .i64 8, .int .i64 7, .int .i64 9, .int .i64 6, .int .i64 10, .int .i64 5, .int .i64 11, .int .i64 4, .int .i64 12, .int .i64 3, .int .i64 13, .int .i64 2, .int .i64 14, .int .i64 1, .int .i64 15] 3)
  have HB := Lib.hid hB
  have Hb := Lib.hid hb
  clear hB hb
  go_enter Try.func35, Try.ntmps35
  go_wp2_with fail
  go_ret
  exact ⟨rfl, HB.out, Hb.out⟩
end Go.Proofs.Ytjnglahjngiofaa
namespace Go.Proofs.Ytjnglahjngiofaa
open Go.RowKit

/-- n numbers m in memory of the call's own. -/
def OwnI (w : World) (base : Nat) (n : Nat) (m : Nat → Int) (v : Value) : Prop := ∃ g cap, v = .slice (some ⟨g, 0, none⟩) n cap ∧ w.ownsRow base 3 1 (.slice (some ⟨g, 0, none⟩) n cap) n (icells n m)

theorem own_made {w : World} {base n k : Nat} {m0 m1 : Nat → Int} {v v' : Value} (hn : n = 0) (h : w.ownsRow base 3 1 v' (n + k) (icells n m0 ++ icells k m1)) (hv : v = .slice none 0 0 ∨ v' ≠ .slice none 0 0) (hv0 : v ≠ .slice none 0 0) : OwnI w base k m1 v' := by
  subst hn
  have h' : w.ownsRow base 3 1 v' k (icells k m1) := by simpa [icells] using h
  rcases h'.2 with ⟨e, _⟩ | ⟨g, cap, cur, e, r⟩
  · rcases hv with hv | hv
    · exact absurd hv hv0
    · exact absurd e hv
  · subst e
    exact ⟨g, cap, rfl, h'⟩

/-- few's row, as it is read. -/
theorem OwnI.row {w : World} {base n : Nat} {m : Nat → Int} {v : Value} (h : OwnI w base n m v) : ∃ g cap, v = .slice (some ⟨g, 0, none⟩) n cap ∧ IRow w (some ⟨g, 0, none⟩) n m ∧ n ≤ cap ∧ cap ≤ 9223372036854775807 := by
  obtain ⟨g, cap, rfl, ho⟩ := h
  refine ⟨g, cap, rfl, IRow.ofOwn ho, ?_⟩
  rcases ho.2 with ⟨e, _⟩ | ⟨g', cap', cur, e, _, _, h1, h2, _⟩
  · cases e
  · simp only [Value.slice.injEq] at e
    obtain ⟨_, _, rfl⟩ := e
    unfold maxLen at h2
    exact ⟨h1, by omega⟩
end Go.Proofs.Ytjnglahjngiofaa
