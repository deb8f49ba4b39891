/- bitio's sinks: Text. Conditions: none. -/
import Derived.Test.YtjnglahjngiofaaSink2
import Derived.Lib.AppendStr
namespace Go.Proofs.Ytjnglahjngiofaa
open Go.RowKit
set_option maxRecDepth 100000

/-- append(own, s...): told besides that no older block but its own row holds the new one. -/
theorem append_string_at (ty : TypeId) (base : Nat) (v : Value) (l : List UInt8) (w : World) (h : OwnB w base v l) (s : ByteArray) (hl : l.length + s.size ≤ 100000000000) (hb : base ≤ w.heap.size) :
    ∃ a n cap w', (Builtin.append_ #[47, 9] ty #[v, .string s]).run Try.prog w = .ok (.slice a n cap) w' ∧ OwnB w' base (.slice a n cap) (l ++ s.data.toList) ∧ w.grownBy w' v.ownBlock ∧
      ∀ g, g < w.heap.size → v.ownBlock ≠ some g → (Value.slice a n cap).ownBlock ≠ some g := by
  obtain ⟨i0, hi, hz0, hz1, hz2⟩ := info_parts info_u8
  have hm : l.length + s.size ≤ maxLen := by unfold maxLen; omega
  have conv : ∀ {W : World} {b : Nat} {v' : Value}, W.ownsRow b 5 1 v' (l.length + s.size) (bcells l ++ Lib.strCells s) → OwnB W b v' (l ++ s.data.toList) := by
    intro W b v' hh
    unfold OwnB
    rw [List.length_append, bcells_append, show s.data.toList.length = s.size by simp]
    exact hh
  have form : ∀ {W : World} {b : Nat} {v' : Value} {L : List UInt8}, OwnB W b v' L → ∃ a n cap, v' = .slice a n cap := by
    intro W b v' L hh
    rcases hh.2 with ⟨rfl, _⟩ | ⟨g, cap, cur, rfl, _⟩
    · exact ⟨_, _, _, rfl⟩
    · exact ⟨_, _, _, rfl⟩
  obtain ⟨v', w', hr, h2, h3, _⟩ := Lib.run_append_own_string (P := Try.prog) w base 47 9 ty 5 i0 Try.underlying47 Try.underlying9 hi hz0 hz1 hz2 v l.length (bcells l) h s hm (by omega) hb
  obtain ⟨a, n, cap, rfl⟩ := form (conv h2)
  refine ⟨a, n, cap, w', hr, conv h2, h3, ?_⟩
  intro g hg hv e
  rcases h.2 with ⟨rfl, hl0⟩ | ⟨g0, cap0, cur, rfl, hb0, hh, hle, hcm, hsz, htk⟩
  · have h' : OwnB w w.heap.size (.slice none 0 0) l := ⟨h.1, .inl ⟨rfl, hl0⟩⟩
    obtain ⟨v2, w2, hr2, h22, _⟩ := Lib.run_append_own_string (P := Try.prog) w w.heap.size 47 9 ty 5 i0 Try.underlying47 Try.underlying9 hi hz0 hz1 hz2 (.slice none 0 0) l.length (bcells l) h' s hm (by omega) (Nat.le_refl _)
    rw [hr] at hr2
    injection hr2 with e1 e2
    subst e1
    have := (World.ownsRow.lt h22 g e).1
    omega
  · by_cases hroom : l.length + s.size ≤ cap0
    · have hr2 := Lib.run_append_room_string (P := Try.prog) (w := w) 47 9 ty 5 i0 Try.underlying47 Try.underlying9 hi hz1 g0 l.length cap0 cur hh s hroom (by omega)
      rw [hr] at hr2
      injection hr2 with e1 e2
      injection e1 with e1 _ _
      subst e1
      exact hv e
    · have holds : ∀ j u, (bcells l)[j]? = some u → w.cell? ((⟨g0, 0, none⟩ : Addr).add j) = some u := fun j u hj => World.ownsRow.cells h (g := g0) rfl j u hj
      have hr2 := Lib.run_append_grow_string (P := Try.prog) (w := w) 47 9 ty 5 i0 _ Try.underlying47 Try.underlying9 hi hz0 ⟨g0, 0, none⟩ l.length cap0 (bcells l) (by rw [hz1]; simp [bcells]) holds s (by omega) (by omega) (by rw [hz2]; exact growslice_fits (by omega) (by omega))
      rw [hr] at hr2
      injection hr2 with e1 e2
      injection e1 with e1 _ _
      subst e1
      simp [Value.ownBlock] at e
      omega
/-- The operation, for the walk. -/
theorem wpList_append_text {ops : Array Oper} {rest : List Oper} {o : Oper} {a : Act} {Q : Exit → Act → World → Prop} {w : World} (hgd : o.guard = none) (sl x : Operand)
    (ho : o.op = .call { callee := .builtin .append, args := #[sl, x], argTypes := #[47, 9] })
    (base : Nat) (v : Value) (l : List UInt8) (hs : a.eval sl = v) (hown : OwnB w base v l) (s : ByteArray) (hx : a.eval x = .string s) (hl : l.length + s.size ≤ 100000000000) (hb : base ≤ w.heap.size)
    (h : ∀ b n cap w', OwnB w' base (.slice b n cap) (l ++ s.data.toList) → w.grownBy w' v.ownBlock → (∀ g, g < w.heap.size → v.ownBlock ≠ some g → (Value.slice b n cap).ownBlock ≠ some g) → wpList Try.prog ops Q rest (a.put o.dst (.slice b n cap)) w') :
    wpList Try.prog ops Q (o :: rest) a w := by
  refine wpList_plain hgd fun K hK => ?_
  obtain ⟨b, n, cap, w', hr, h2, h3, h4⟩ := append_string_at o.type base v l w hown s hl hb
  unfold Oper.wp execOp
  simp only [ho, resolve, invoke, builtin, Sem.run_bind, Sem.run_pure, Result.andThen_ok, List.map_toArray, List.map_cons, List.map_nil, hs, hx, hr]
  exact hK _ _ (h b n cap w' h2 h3 h4)

theorem bytesN_app (V k : Nat) (hV : V < 2 ^ (8 * k)) (l : List UInt8) : bytesN (V + leN l * 2 ^ (8 * k)) (k + l.length) = bytesN V k ++ l := by
  apply leN_inj
  · rw [bytesN_length, List.length_append, bytesN_length]
  · have h1 := leN_lt l
    have hX : V + leN l * 2 ^ (8 * k) < 256 ^ (k + l.length) := by
      rw [Nat.pow_add, pow256 k, Nat.mul_comm (2 ^ (8 * k)) (256 ^ l.length)]
      have h2 := Nat.mul_le_mul_right (2 ^ (8 * k)) (show leN l + 1 ≤ 256 ^ l.length from h1)
      rw [Nat.add_mul, Nat.one_mul] at h2
      omega
    rw [leN_bytesN, leN_append, leN_bytesN, Nat.mod_eq_of_lt hX, bytesN_length, Nat.mod_eq_of_lt (by rw [pow256]; exact hV), pow256 k]

set_option maxHeartbeats 2000000 in
theorem sinkText_any (P : Nat) (v : Value) (V c : Nat) (s : ByteArray) (hs : s.size ≤ 1000000) (hc : c ≤ 900000000) (w : World) (hS : SinkAt w P v V c) :
    Calls Try.prog 66 #[.pointer (some ⟨P, 0, none⟩), .string s] w fun e w' =>
      e = .returned (.tuple #[]) ∧ ∃ v', SinkAt w' P v' (V + leN s.data.toList * 2 ^ ((c + 7) / 8 * 8)) ((c + 7) / 8 * 8 + 8 * s.size) ∧ Chg w w' P v ∧ Fresh w v v' := by
  have CE := Lib.hid (sinkEven_any P v V c (by omega) w hS)
  obtain ⟨k, Hk⟩ : ∃ k, Hid ((c + 7) / 8 = k) := ⟨_, Lib.hid (Eq.refl _)⟩
  have hk : k ≤ 1000000000 := by have := Hk.out; omega
  rw [Hk.out] at CE ⊢
  clear hS
  go_enter Try.func66, Try.ntmps66
  go_wp2_with fail
  refine CE.out.mono ?_
  rintro e w1 ⟨rfl, v1, hS1, hC1, hF1⟩
  obtain ⟨hB, hO, hV⟩ := hS1
  rw [show k * 8 / 8 = k by omega] at hB hO
  have hsz := bytesN_length V k
  have hz0 : V / 2 ^ (8 * k) = 0 := Nat.div_eq_of_lt (by rw [Nat.mul_comm 8 k]; exact hV)
  rw [hz0, show k * 8 % 8 = 0 by omega] at hB
  have hPl := hB.lt
  have hne : v1.ownBlock ≠ some P := fun h => by have := (World.ownsRow.lt hO _ h).1; omega
  have hlen : (bytesN V k).length + s.size ≤ 100000000000 := by rw [hsz]; omega
  have c0 := hB.cell 0
  simp at c0
  have HC1 := Lib.hid hC1
  have HF1 := Lib.hid hF1
  have HV := Lib.hid hV
  have HBl := Lib.hid hB
  have HNe := Lib.hid hne
  have hos := hO
  clear hB hO hV hC1 hF1 hz0 hsz hne
  go_wp2_with (first
    | (at_builtin; go_must (refine wpList_append_text rfl (.tmp 10) (.tmp 11) rfl (P + 1) v1 (bytesN V k) rfl hos s rfl hlen hPl ?_; intro a2 n2 cap2 w2 hO2 hg2 hF2; have hB2 := HBl.out.grown hg2 (fun e => HNe.out e.symm); have d0 := hB2.cell 0; have df := hB2.frozen 0; simp at d0; have HB2 := Lib.hid hB2; have HO2 := Lib.hid hO2; have HF2 := Lib.hid hF2; have HG2 := Lib.hid hg2; clear hB2 hO2 hF2 hg2))
    | fail)
  (try simp only [Exit.inBlock, Exit.then]); refine bodyPost_end (results_none rfl _ _ _) rfl ?_
  have hV2 : V < 2 ^ (8 * k) := by rw [Nat.mul_comm]; exact HV.out
  have happ := bytesN_app V k hV2 s.data.toList
  rw [show s.data.toList.length = s.size by simp, Nat.mul_comm 8 k] at happ
  have hl2 := leN_lt s.data.toList
  rw [show s.data.toList.length = s.size by simp, pow256] at hl2
  have hX : V + leN s.data.toList * 2 ^ (k * 8) < 2 ^ (k * 8 + 8 * s.size) := by
    have h2 := Nat.mul_le_mul_right (2 ^ (k * 8)) (show leN s.data.toList + 1 ≤ 2 ^ (8 * s.size) from hl2)
    rw [Nat.add_mul, Nat.one_mul, ← Nat.pow_add, Nat.add_comm (8 * s.size)] at h2
    have := HV.out
    omega
  refine ⟨rfl, .slice a2 n2 cap2, ⟨?_, ?_, hX⟩, ?_, ?_⟩
  · have h := HB2.out.set_ 0 (.slice a2 n2 cap2)
    rw [show (k * 8 + 8 * s.size) / 8 = k + s.size by omega, show (k * 8 + 8 * s.size) % 8 = 0 by omega, Nat.div_eq_of_lt (by rw [show 8 * (k + s.size) = k * 8 + 8 * s.size by omega]; exact hX)]
    simpa using h
  · rw [show (k * 8 + 8 * s.size) / 8 = k + s.size by omega, happ]
    exact own_cell HO2.out P 0 (by omega) _
  · exact HC1.out.trans HF1.out ⟨⟨HG2.out.os, HG2.out.tape, HG2.out.output⟩, by simpa [World.setCell] using HG2.out.size, fun g hg hP hv => (heap_setCell_other _ _ _ _ (by simpa using hP)).trans (HG2.out.block g hg (fun e => hv e.symm))⟩
  · exact HF1.out.trans HC1.out.2.1 HF2.out
end Go.Proofs.Ytjnglahjngiofaa
