/- Words of memory for this seat's walks: a slice of bytes that the call itself made, appended to byte by byte, and turned into a text. Conditions: none. -/
import Derived.Test.YtbccljpbnbobmaaRows
import Derived.WalkKit
import Derived.WalkSpells
import Derived.WalkLawsBesides
import Derived.Lib.Hide
import Derived.Deep.AppendLies
import Derived.Deep.DeepMust
import Derived.Deep.QuietTactic
import Derived.BigQuiet
import Derived.Laws.CopyOwn
import Derived.Maps.AppendAt
namespace Go.Proofs.Ytbccljpbnbobmaa
open Go.RowKit

/-- Block g is just the cells cs of type t, none frozen. -/
def Blk (w : World) (g : Nat) (t : TypeId) (cs : Array Value) : Prop := w.heap[g]? = some (.cells cs t (0, 0))

section
variable {w w' : World} {g : Nat} {t : TypeId} {cs : Array Value}
theorem Blk.lt (h : Blk w g t cs) : g < w.heap.size := by
  rcases Nat.lt_or_ge g w.heap.size with hlt | hge
  · exact hlt
  · unfold Blk at h; rw [Array.getElem?_eq_none hge] at h; cases h
theorem Blk.cell (h : Blk w g t cs) (i : Nat) : w.cell? ⟨g, i, none⟩ = cs[i]? := cell_of_row w g i cs t (0, 0) h
theorem Blk.frozen (h : Blk w g t cs) (i : Nat) : w.frozen? ⟨g, i, none⟩ = false := by
  unfold Blk at h
  simp [World.frozen?, h]
theorem Blk.new (w : World) (t : TypeId) (cs : Array Value) : Blk (w.alloc (.cells cs t)) w.heap.size t cs := heap_alloc_new w _
theorem Blk.drew (h : Blk w g t cs) : Blk w.drew g t cs := h
theorem Blk.drewN (h : Blk w g t cs) (n : Nat) : Blk (w.drewN n) g t cs := h
theorem Blk.alloc (h : Blk w g t cs) (o : Obj) : Blk (w.alloc o) g t cs := (Below.heap_alloc w o g h.lt).trans h
theorem Blk.set_ (h : Blk w g t cs) (i : Nat) (u : Value) : Blk (w.setCell ⟨g, i, none⟩ u) g t (cs.setIfInBounds i u) := by
  unfold Blk at h ⊢
  simp [World.setCell, Array.getElem?_modify, h]
theorem Blk.far (h : Blk w g t cs) {p : Addr} (hp : g ≠ p.block) (u : Value) : Blk (w.setCell p u) g t cs := (Below.heap_setCell w p u g hp).trans h
theorem Blk.below {B : Nat} (h : Blk w g t cs) (hb : Below B w w') (hg : g < B) : Blk w' g t cs := (hb.block g hg).trans h
theorem Blk.grown {row : Option Nat} (h : Blk w g t cs) (hb : w.grownBy w' row) (hg : some g ≠ row) : Blk w' g t cs := (hb.block g h.lt hg).trans h
end

/-- n cells, by their place. -/
def fcells (n : Nat) (f : Nat → Value) : Array Value := ((List.range n).map f).toArray
theorem fcells_size (n : Nat) (f : Nat → Value) : (fcells n f).size = n := by simp [fcells]
theorem fcells_at (n : Nat) (f : Nat → Value) (j : Nat) (hj : j < n) : (fcells n f)[j]? = some (f j) := by simp [fcells, hj]
theorem fcells_out (n : Nat) (f : Nat → Value) (j : Nat) (hj : ¬ j < n) : (fcells n f)[j]? = none := by simp [fcells, hj]
theorem fcells_congr (n : Nat) (f g : Nat → Value) (h : ∀ i, i < n → f i = g i) : fcells n f = fcells n g := by
  apply Array.ext_getElem?
  intro i
  by_cases hi : i < n
  · rw [fcells_at n _ i hi, fcells_at n _ i hi, h i hi]
  · rw [fcells_out n _ i hi, fcells_out n _ i hi]
theorem fcells_set (n : Nat) (f : Nat → Value) (j : Nat) (v : Value) : (fcells n f).setIfInBounds j v = fcells n (fun i => if i = j then v else f i) := by
  apply Array.ext_getElem?
  intro i
  rw [Array.getElem?_setIfInBounds]
  by_cases hi : i < n
  · rw [fcells_at n _ i hi, fcells_at n _ i hi]
    by_cases e : j = i
    · subst e; simp [fcells_size, hi]
    · have e' : ¬ i = j := fun h => e h.symm
      simp [e, e']
  · rw [fcells_out n _ i hi, fcells_out n _ i hi]
    by_cases e : j = i
    · subst e; simp [fcells_size, hi]
    · simp [e]
theorem fcells_made (n : Nat) (z : Value) : madeCells #[z] n = fcells n fun _ => z := by
  apply Array.toList_inj.1
  rw [toList_madeCells_one]
  simp only [fcells]
  rw [List.map_const', List.length_range]

theorem info_u8 : (Try.prog.info? 5).map (fun i => (i.zero, i.size, i.bytes)) = some (some (.int .u8 0), 1, 1) := by kernel_rfl

/-- The cells of bytes. -/
def bcells (l : List UInt8) : List Value := l.map fun c => .int .u8 (c.toNat : Int)

theorem bcells_append (l m : List UInt8) : bcells (l ++ m) = bcells l ++ bcells m := by simp [bcells]

/-- The slice value v owns the bytes l, in blocks from base on. -/
def OwnB (w : World) (base : Nat) (v : Value) (l : List UInt8) : Prop := w.ownsRow base 5 1 v l.length (bcells l)

theorem OwnB.nil (w : World) (base : Nat) : OwnB w base (.slice none 0 0) [] := World.ownsRow_nil _ _ _ _
theorem OwnB.drew {w : World} {base : Nat} {v : Value} {l : List UInt8} (h : OwnB w base v l) : OwnB w.drew base v l := h

theorem ret_int {k : IntKind} {a b : Int} (h : a = b) : Ending.returned (.int k a) = .returned (.int k b) := by rw [h]
theorem ret_str {a b : List UInt8} (h : a = b) : Ending.returned (.string ⟨a.toArray⟩) = .returned (.string ⟨b.toArray⟩) := by rw [h]

theorem toList_front (s : ByteArray) (k : Nat) : (s.extract 0 k).toList = s.data.toList.take k := by
  rw [ByteArray.toList_eq]
  simp

theorem below_drew {B : Nat} {w w' : World} (h : Below w.drew.heap.size w.drew w') (hB : B ≤ w.heap.size) : Below B w w' :=
  ((Below.refl B w).drew).trans (Below.mono h hB)

theorem below_drewN {B : Nat} {a w : World} (h : Below B a w) (n : Nat) : Below B a (w.drewN n) := ⟨h.os, h.tape, h.output, h.size, h.block⟩

theorem bthen {w w1 w2 : World} (h : Below w.heap.size w w1) (k : Below w1.heap.size w1 w2) : Below w.heap.size w w2 := h.trans (k.mono h.size)

theorem ofNat_byte (u : Int) (h0 : 0 ≤ u) (h1 : u < 256) : ((UInt8.ofNat u.toNat).toNat : Int) = u := by
  simp [UInt8.toNat_ofNat']
  omega

/-- make([]T, n), T of one cell. -/
theorem run_make_f {t e : TypeId} (ht : Try.prog.underlying t = some (.slice e)) {z : Value} {bytes : Nat} (hI : (Try.prog.info? e).map (fun i => (i.zero, i.size, i.bytes)) = some (some z, 1, bytes)) (hz : z.cells = #[z]) (n : Nat) (I : Int) (hn : I = (n : Int)) (hb : bytes * n ≤ 281474976710656) (hm : n ≤ 9223372036854775807) (w : World) :
    (Instr.makeSlice t (.int .i64 I) (.int .i64 I)).run Try.prog w = .ok (.slice (some ⟨w.heap.size, 0, none⟩) n n) (w.alloc (.cells (fcells n fun _ => z) e)) := by
  subst hn
  obtain ⟨i0, hi, hz0, hz1, hz2⟩ := info_parts hI
  have hbi : (i0.bytes : Int) * (n : Int) ≤ 281474976710656 := by
    have h : ((i0.bytes * n : Nat) : Int) ≤ 281474976710656 := by rw [hz2]; omega
    rwa [Int.natCast_mul] at h
  have hr := run_make (P := Try.prog) w t e i0 z ht hi hz0 .i64 .i64 n n (by omega) (by omega) hbi (by omega)
  simp only [Int.toNat_natCast] at hr
  rw [hz1, hz, Nat.mul_one, fcells_made] at hr
  exact hr

theorem grownBy_trans {w w1 w2 : World} {row : Option Nat} (h4 : w.grownBy w1 row) (h3 : w1.grownBy w2 row) : w.grownBy w2 row :=
  ⟨h3.os.trans h4.os, h3.tape.trans h4.tape, h3.output.trans h4.output, Nat.le_trans h4.size h3.size,
    fun k hk hne => (h3.block k (Nat.lt_of_lt_of_le hk h4.size) hne).trans (h4.block k hk hne)⟩

/-- append(out, x, ..): k elements, of whatever type, that were just laid, behind those that the call itself has put together; as an operation. -/
theorem wp_append_lit_at {o : Oper} {a : Act} {K : Act → World → Prop} {Q : Exit → Act → World → Prop} (w : World) (s x : Operand) {t e : TypeId}
    (ho : o.op = .call { callee := .builtin .append, args := #[s, x], argTypes := #[t, t] })
    (ht : Try.prog.underlying t = some (.slice e)) {z : Value} {size bytes : Nat} (hI : (Try.prog.info? e).map (fun i => (i.zero, i.size, i.bytes)) = some (some z, size, bytes)) (hzs : z.cells.size = size) (hsz : 0 < size)
    (base : Nat) (v : Value) (n : Nat) (xs us : List Value) (k : Nat) (hown : w.ownsRow base e size v n xs) (hus : us.length = k * size) (h1 : ∀ u ∈ us, u.oneCell' = true) (hs : a.eval s = v)
    {sz : Nat} (hx : a.eval x = .slice (some ⟨sz, 0, none⟩) k k) (hsize : sz = w.heap.size) (hm : n + k ≤ maxLen) (hl : (n + k) * bytes ≤ 140737488355328) (hbase : base ≤ w.heap.size)
    {w1 : World} (hw1 : w1 = w.alloc (.cells us.toArray e))
    (h : ∀ v' w', w'.ownsRow base e size v' (n + k) (xs ++ us) → w.grownBy w' v.ownBlock → (∀ g, g < w.heap.size → v.ownBlock ≠ some g → v'.ownBlock ≠ some g) → K (a.put o.dst v') w') :
    o.wp Try.prog a w1 K Q := by
  subst hsize
  subst hw1
  obtain ⟨i0, hi, hz0, hz1, hz2⟩ := info_parts hI
  obtain ⟨v', w', hrun, h2, h3, _, h5⟩ := run_append_own_at (P := Try.prog) (w.alloc (.cells us.toArray e)) base t o.type e i0 z size bytes ht hi hz0 hz1 hz2 hzs hsz v n xs
    (World.ownsRow.alloc hown _) ⟨w.heap.size, 0, none⟩ k k us hus (by
      intro j y hj
      have e1 : (⟨w.heap.size, 0, none⟩ : Addr).add j = ⟨w.heap.size, j, none⟩ := by unfold Addr.add; split <;> simp_all
      rw [e1, cell_of_row _ w.heap.size j us.toArray e (0, 0) (heap_alloc_new w _)]
      simpa using hj) h1 hm hl (by simp; omega)
  have hk := h v' w' h2 (grownBy_trans (World.grownBy_alloc w (.cells us.toArray e) v.ownBlock) h3) (by
    intro g hg hne
    rcases h5 with h5 | h5
    · rw [h5]; exact hne
    · rw [h5, World.size_alloc]
      intro he
      simp only [Option.some.injEq] at he
      omega)
  unfold Oper.wp execOp
  simp only [ho, resolve, invoke, builtin, Sem.run_bind, Sem.run_pure, Result.andThen_ok, List.map_toArray, List.map_cons, List.map_nil, hs, hx, hrun]
  exact hk

/-- append(out, x, ..): k elements, of whatever type, that were just laid, behind those that the call itself has put together; as an operation. -/
theorem wp_append_lit {o : Oper} {a : Act} {K : Act → World → Prop} {Q : Exit → Act → World → Prop} (w : World) (s x : Operand) {t e : TypeId}
    (ho : o.op = .call { callee := .builtin .append, args := #[s, x], argTypes := #[t, t] })
    (ht : Try.prog.underlying t = some (.slice e)) {z : Value} {size bytes : Nat} (hI : (Try.prog.info? e).map (fun i => (i.zero, i.size, i.bytes)) = some (some z, size, bytes)) (hzs : z.cells.size = size) (hsz : 0 < size)
    (base : Nat) (v : Value) (n : Nat) (xs us : List Value) (k : Nat) (hown : w.ownsRow base e size v n xs) (hus : us.length = k * size) (h1 : ∀ u ∈ us, u.oneCell' = true) (hs : a.eval s = v)
    {sz : Nat} (hx : a.eval x = .slice (some ⟨sz, 0, none⟩) k k) (hsize : sz = w.heap.size) (hm : n + k ≤ maxLen) (hl : (n + k) * bytes ≤ 140737488355328) (hbase : base ≤ w.heap.size)
    {w1 : World} (hw1 : w1 = w.alloc (.cells us.toArray e))
    (h : ∀ v' w', w'.ownsRow base e size v' (n + k) (xs ++ us) → w.grownBy w' v.ownBlock → K (a.put o.dst v') w') :
    o.wp Try.prog a w1 K Q :=
  wp_append_lit_at w s x ho ht hI hzs hsz base v n xs us k hown hus h1 hs hx hsize hm hl hbase hw1 fun v' w' h2 h3 _ => h v' w' h2 h3

/-- append(out, x): one element, of whatever type, behind those that the call itself has put together. -/
theorem wpList_append_elem {ops : Array Oper} {rest : List Oper} {o : Oper} {a : Act} {Q : Exit → Act → World → Prop} (w : World) (hgd : o.guard = none) (s x : Operand) {t e : TypeId}
    (ho : o.op = .call { callee := .builtin .append, args := #[s, x], argTypes := #[t, t] })
    (ht : Try.prog.underlying t = some (.slice e)) {z : Value} {size bytes : Nat} (hI : (Try.prog.info? e).map (fun i => (i.zero, i.size, i.bytes)) = some (some z, size, bytes)) (hzs : z.cells.size = size) (hsz : 0 < size)
    (base : Nat) (v : Value) (n : Nat) (xs us : List Value) (hown : w.ownsRow base e size v n xs) (hus : us.length = size) (h1 : ∀ u ∈ us, u.oneCell' = true) (hs : a.eval s = v)
    {sz : Nat} (hx : a.eval x = .slice (some ⟨sz, 0, none⟩) 1 1) (hsize : sz = w.heap.size) (hm : n + 1 ≤ maxLen) (hl : (n + 1) * bytes ≤ 140737488355328) (hbase : base ≤ w.heap.size)
    (h : ∀ v' w', w'.ownsRow base e size v' (n + 1) (xs ++ us) → w.grownBy w' v.ownBlock → wpList Try.prog ops Q rest (a.put o.dst v') w') :
    wpList Try.prog ops Q (o :: rest) a (w.alloc (.cells us.toArray e)) :=
  wpList_plain hgd fun _ hK => wp_append_lit w s x ho ht hI hzs hsz base v n xs us 1 hown (by omega) h1 hs hx hsize hm hl hbase rfl fun v' w' h2 h3 => hK _ _ (h v' w' h2 h3)

/-- The same, told besides that no older block but its own row holds the new one. -/
theorem wpList_append_elem_at {ops : Array Oper} {rest : List Oper} {o : Oper} {a : Act} {Q : Exit → Act → World → Prop} (w : World) (hgd : o.guard = none) (s x : Operand) {t e : TypeId}
    (ho : o.op = .call { callee := .builtin .append, args := #[s, x], argTypes := #[t, t] })
    (ht : Try.prog.underlying t = some (.slice e)) {z : Value} {size bytes : Nat} (hI : (Try.prog.info? e).map (fun i => (i.zero, i.size, i.bytes)) = some (some z, size, bytes)) (hzs : z.cells.size = size) (hsz : 0 < size)
    (base : Nat) (v : Value) (n : Nat) (xs us : List Value) (hown : w.ownsRow base e size v n xs) (hus : us.length = size) (h1 : ∀ u ∈ us, u.oneCell' = true) (hs : a.eval s = v)
    {sz : Nat} (hx : a.eval x = .slice (some ⟨sz, 0, none⟩) 1 1) (hsize : sz = w.heap.size) (hm : n + 1 ≤ maxLen) (hl : (n + 1) * bytes ≤ 140737488355328) (hbase : base ≤ w.heap.size)
    (h : ∀ v' w', w'.ownsRow base e size v' (n + 1) (xs ++ us) → w.grownBy w' v.ownBlock → (∀ g, g < w.heap.size → v.ownBlock ≠ some g → v'.ownBlock ≠ some g) → wpList Try.prog ops Q rest (a.put o.dst v') w') :
    wpList Try.prog ops Q (o :: rest) a (w.alloc (.cells us.toArray e)) :=
  wpList_plain hgd fun _ hK => wp_append_lit_at w s x ho ht hI hzs hsz base v n xs us 1 hown (by omega) h1 hs hx hsize hm hl hbase rfl fun v' w' h2 h3 h4 => hK _ _ (h v' w' h2 h3 h4)

/-- The same in a region that draws its order, k elements. -/
theorem step_append_lit {ops : Array Oper} {o : Oper} {a : Act} {K : Act → World → Prop} {Q : Exit → Act → World → Prop} {E : Prop} (w : World) (hgd : o.guard = none) (s x : Operand) {t e : TypeId}
    (ho : o.op = .call { callee := .builtin .append, args := #[s, x], argTypes := #[t, t] })
    (ht : Try.prog.underlying t = some (.slice e)) {z : Value} {size bytes : Nat} (hI : (Try.prog.info? e).map (fun i => (i.zero, i.size, i.bytes)) = some (some z, size, bytes)) (hzs : z.cells.size = size) (hsz : 0 < size)
    (base : Nat) (v : Value) (n : Nat) (xs us : List Value) (k : Nat) (hown : w.ownsRow base e size v n xs) (hus : us.length = k * size) (h1 : ∀ u ∈ us, u.oneCell' = true) (hs : a.eval s = v)
    {sz : Nat} (hx : a.eval x = .slice (some ⟨sz, 0, none⟩) k k) (hsize : sz = w.heap.size) (hm : n + k ≤ maxLen) (hl : (n + k) * bytes ≤ 140737488355328) (hbase : base ≤ w.heap.size)
    {w1 : World} (hw1 : w1 = w.alloc (.cells us.toArray e))
    (h : ∀ v' w', w'.ownsRow base e size v' (n + k) (xs ++ us) → w.grownBy w' v.ownBlock → K (a.put o.dst v') w') :
    if Region.wanted o (yielded ops a.tmps) = true then Oper.wp Try.prog o a w1 K Q else E := by
  have hw : Region.wanted o (yielded ops a.tmps) = true := by simp [Region.wanted, hgd]
  rw [if_pos hw]
  exact wp_append_lit w s x ho ht hI hzs hsz base v n xs us k hown hus h1 hs hx hsize hm hl hbase hw1 h

theorem below_grown {w w' : World} {base e size n : Nat} {v : Value} {xs : List Value} (hown : w.ownsRow base e size v n xs) (hg : w.grownBy w' v.ownBlock) (hbase : base ≤ w.heap.size) : Below base w w' :=
  (Below.refl base w).grown hg hbase fun k hk => (World.ownsRow.lt hown k hk).1

/-- append(out, c): one byte behind those that the call itself has put together. -/
theorem wpList_append_byte {ops : Array Oper} {rest : List Oper} {o : Oper} {a : Act} {Q : Exit → Act → World → Prop} (w : World) (hgd : o.guard = none) (s x : Operand)
    (ho : o.op = .call { callee := .builtin .append, args := #[s, x], argTypes := #[31, 31] })
    (base : Nat) (v : Value) (l : List UInt8) (u : Int) (hown : OwnB w base v l) (hs : a.eval s = v)
    {sz : Nat} (hx : a.eval x = .slice (some ⟨sz, 0, none⟩) 1 1) (hsize : sz = w.heap.size) (h0 : 0 ≤ u) (h1 : u < 256) (hl : l.length < 140737488355328) (hbase : base ≤ w.heap.size)
    (h : ∀ v' w', OwnB w' base v' (l ++ [UInt8.ofNat u.toNat]) → Below base w w' → wpList Try.prog ops Q rest (a.put o.dst v') w') :
    wpList Try.prog ops Q (o :: rest) a (w.alloc (.cells #[.int .u8 u] 5)) := by
  refine wpList_append_elem w hgd s x ho Try.underlying31 info_u8 rfl (by decide) base v l.length (bcells l) [.int .u8 u] hown rfl (by intro y hy; simp at hy; subst hy; rfl) hs hx hsize
    (by unfold maxLen; omega) (by omega) hbase ?_
  intro v' w' h2 h3
  refine h v' w' ?_ (below_grown hown h3 hbase)
  unfold OwnB
  rw [bcells_append, List.length_append]
  have : bcells [UInt8.ofNat u.toNat] = [.int .u8 u] := by simp only [bcells, List.map_cons, List.map_nil, ofNat_byte u h0 h1]
  rw [this]
  exact h2

/-- []byte{} -/
theorem OwnB.empty (w : World) (base : Nat) (hb : base ≤ w.heap.size) : OwnB (w.alloc (.cells #[] 5)) base (.slice (some ⟨w.heap.size, 0, none⟩) 0 0) [] :=
  World.ownsRow_made w #[] 0 hb (Nat.zero_le _) rfl

/-- string([]byte{c}) -/
theorem run_string_one (W : World) (u : Int) : (convert 31 9 (.slice (some ⟨W.heap.size, 0, none⟩) 1 1)).run Try.prog (W.alloc (.cells #[.int .u8 u] 5)) = .ok (.string ⟨#[UInt8.ofNat u.toNat]⟩) (W.alloc (.cells #[.int .u8 u] 5)) := by
  rw [run_convert_bytes_string _ 31 9 5 _ 1 1 Try.underlying31 Try.underlying5 Try.underlying9]
  have hl := run_loadCells_list (P := Try.prog) (W.alloc (.cells #[.int .u8 u] 5)) ⟨W.heap.size, 0, none⟩ [.int .u8 u] (fun j v hj => by
    match j, hj with
    | 0, hj =>
      simp at hj
      subst hj
      have e1 : (⟨W.heap.size, 0, none⟩ : Addr).add 0 = ⟨W.heap.size, 0, none⟩ := rfl
      rw [e1, cell_of_row _ W.heap.size 0 #[.int .u8 u] 5 (0, 0) (heap_alloc_new W _)]
      rfl)
  exact run_bytesToString _ ⟨W.heap.size, 0, none⟩ 1 1 [u] hl

/-- []byte{c} -/
theorem OwnB.one (w : World) (base : Nat) (hb : base ≤ w.heap.size) (u : Int) (h0 : 0 ≤ u) (h1 : u < 256) :
    OwnB (w.alloc (.cells #[.int .u8 u] 5)) base (.slice (some ⟨w.heap.size, 0, none⟩) 1 1) [UInt8.ofNat u.toNat] := by
  have h := World.ownsRow_lit (base := base) (e := 5) (size := 1) w #[.int .u8 u] 1 hb (by decide) rfl
  unfold OwnB
  have : bcells [UInt8.ofNat u.toNat] = [.int .u8 u] := by simp only [bcells, List.map_cons, List.map_nil, ofNat_byte u h0 h1]
  rw [this]
  exact h

theorem OwnB.len {w : World} {base g n cap : Nat} {l : List UInt8} (h : OwnB w base (.slice (some ⟨g, 0, none⟩) n cap) l) : n = l.length := by
  rcases h.2 with ⟨h', _⟩ | ⟨g', cap', cur, h', _⟩
  · cases h'
  · injection h' with _ h2 _

theorem OwnB.form {w : World} {base : Nat} {v : Value} {l : List UInt8} (h : OwnB w base v l) (hl : 0 < l.length) : ∃ g cap, v = .slice (some ⟨g, 0, none⟩) l.length cap ∧ base ≤ g := by
  obtain ⟨g, cap, h1, h2, _⟩ := World.ownsRow.form h hl
  exact ⟨g, cap, h1, h2⟩

theorem OwnB.cell {w : World} {base g n cap : Nat} {l : List UInt8} (h : OwnB w base (.slice (some ⟨g, 0, none⟩) n cap) l) (j : Nat) (hj : j < l.length) :
    w.cell? ⟨g, j, none⟩ = some (.int .u8 (l[j].toNat : Int)) := by
  obtain rfl := h.len
  rw [World.ownsRow.cellAt h j (by omega)]
  simp [bcells, List.getElem?_eq_getElem hj]

theorem OwnB.free {w : World} {base g n cap : Nat} {l : List UInt8} (h : OwnB w base (.slice (some ⟨g, 0, none⟩) n cap) l) (j : Nat) : w.frozen? ⟨g, j, none⟩ = false := by
  obtain rfl := h.len
  exact World.ownsRow.frozenAt h j

theorem OwnB.set {w : World} {base g n cap : Nat} {l : List UInt8} (h : OwnB w base (.slice (some ⟨g, 0, none⟩) n cap) l) (j : Nat) (u : Int) (h0 : 0 ≤ u) (h1 : u < 256) :
    OwnB (w.setCell ⟨g, j, none⟩ (.int .u8 u)) base (.slice (some ⟨g, 0, none⟩) n cap) (l.set j (UInt8.ofNat u.toNat)) := by
  obtain rfl := h.len
  have h2 := (World.ownsRow.stored h j (.int .u8 u)).1
  unfold OwnB
  have e1 : bcells (l.set j (UInt8.ofNat u.toNat)) = (bcells l).set j (.int .u8 u) := by
    unfold bcells
    rw [List.map_set, ofNat_byte u h0 h1]
  rw [e1, List.length_set]
  exact h2

theorem run_string_nil (w : World) (n c : Nat) : (convert 31 9 (.slice none n c)).run Try.prog w = .ok (.string ⟨#[]⟩) w := by
  exact run_convert_bytes_nil w 31 5 Try.underlying31 Try.underlying5 n c 9 Try.underlying9

/-- string(out) -/
theorem run_string_own (w : World) (base : Nat) (v : Value) (l : List UInt8) (h : OwnB w base v l) :
    (convert 31 9 v).run Try.prog w = .ok (.string ⟨l.toArray⟩) w := by
  rcases h.2 with ⟨rfl, h0⟩ | ⟨g, cap, cur, rfl, _⟩
  · obtain rfl : l = [] := List.eq_nil_of_length_eq_zero h0
    exact run_string_nil w 0 0
  · refine run_convert_bytes_back w 31 9 5 ⟨g, 0, none⟩ cap l Try.underlying31 Try.underlying5 Try.underlying9 ?_
    intro j hj
    refine World.ownsRow.cells h (g := g) rfl j _ ?_
    simp [bcells, List.getElem?_eq_getElem hj]

/-- Block g holds the bytes of s, as []byte(s) laid them. -/
def KeepB (w : World) (g : Nat) (s : ByteArray) : Prop :=
  ∃ cs fr, w.heap[g]? = some (.cells cs 5 fr) ∧ fr ≠ (0, 0) ∧ ∀ i (h : i < s.size), cs[i]? = some (.int .u8 (s[i].toNat : Int))

section
variable {w w' : World} {g : Nat} {s : ByteArray}
theorem KeepB.new (w : World) (s : ByteArray) (cap : Nat) : KeepB (w.alloc (.cells (bytesRow s cap) 5 ((bytesRow s cap).size, (bytesRow s cap).size + 1))) w.heap.size s :=
  ⟨_, _, heap_alloc_new w _, by simp, fun i h => bytesRow_at s cap i h⟩
theorem KeepB.lt (h : KeepB w g s) : g < w.heap.size := by
  obtain ⟨cs, fr, h1, _⟩ := h
  exact (Array.getElem?_eq_some_iff.1 h1).1
theorem KeepB.cell (h : KeepB w g s) (i : Nat) (hi : i < s.size) : w.cell? ⟨g, i, none⟩ = some (.int .u8 (s[i].toNat : Int)) := by
  obtain ⟨cs, fr, h1, _, h2⟩ := h
  rw [cell_of_row w g i cs _ fr h1, h2 i hi]
theorem KeepB.drew (h : KeepB w g s) : KeepB w.drew g s := h
theorem KeepB.alloc (h : KeepB w g s) (o : Obj) : KeepB (w.alloc o) g s := by
  have hl := h.lt
  obtain ⟨cs, fr, h1, h2⟩ := h
  exact ⟨cs, fr, (Below.heap_alloc w o g hl).trans h1, h2⟩
theorem KeepB.below {B : Nat} (h : KeepB w g s) (hb : Below B w w') (hg : g < B) : KeepB w' g s := by
  obtain ⟨cs, fr, h1, h2⟩ := h
  exact ⟨cs, fr, (hb.block g hg).trans h1, h2⟩
theorem KeepB.grown {base e size n : Nat} {v : Value} {xs : List Value} (h : KeepB w g s) (hown : w.ownsRow base e size v n xs) (hg : w.grownBy w' v.ownBlock) : KeepB w' g s := by
  have hl := h.lt
  obtain ⟨cs, fr, h1, h2, h3⟩ := h
  refine ⟨cs, fr, (hg.block g hl ?_).trans h1, h2, h3⟩
  intro he
  rcases hown.2 with ⟨rfl, _⟩ | ⟨g', cap, cur, rfl, _, hh, _⟩
  · simp [Value.ownBlock] at he
  · have : g = g' := by simpa [Value.ownBlock] using he
    subst this
    rw [hh] at h1
    simp only [Option.some.injEq, Obj.cells.injEq] at h1
    exact h2 h1.2.2.symm
end
end Go.Proofs.Ytbccljpbnbobmaa
