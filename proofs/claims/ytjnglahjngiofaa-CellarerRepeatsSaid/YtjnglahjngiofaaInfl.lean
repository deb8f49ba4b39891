/- inflate.Inflate. Conditions: texts of at most a hundred thousand bytes. -/
import Derived.Test.YtjnglahjngiofaaJoinW
import Derived.Test.YtjnglahjngiofaaInfWays
namespace Go.Proofs.Ytjnglahjngiofaa
open Go.RowKit
set_option maxRecDepth 100000

theorem inflate_bad (s : ByteArray) (q most : Int) (h : q < 0 ∨ (s.size : Int) < q ∨ most < 0 ∨ 65536 < most) (w : World) : Calls Try.prog 27 #[.string s, .int .i64 q, .int .i64 most] w fun r w' => r = .returned (.tuple #[.string ⟨#[]⟩, .int .i64 0, .int .i64 1]) ∧ w = w' := by
  have CB := Lib.hid (blocks_bad s q most h w)
  clear h
  go_enter Try.func27, Try.ntmps27
  go_wp2_with fail
  refine CB.out.mono ?_
  rintro r w1 ⟨rfl, rfl⟩
  go_wp2_with fail
  go_ret3
  exact ⟨rfl, rfl⟩

theorem inflate_any (s : ByteArray) (hs : s.size ≤ 100000) (q most : Nat) (hq : q ≤ s.size) (hm : most ≤ 65536) (u : ByteArray) (hu : s.extract q s.size = u) (w : World) :
    Calls Try.prog 27 #[.string s, .int .i64 (q : Int), .int .i64 (most : Int)] w fun r w' => Below w.heap.size w w' ∧
      ((∃ e, e ≠ 0 ∧ inflR u most = .error e ∧ r = .returned (.tuple #[.string ⟨#[]⟩, .int .i64 0, .int .i64 (e : Int)])) ∨
       (∃ bs p z, inflR u most = .ok (bs, sg u p z) ∧ p ≤ 8 * u.size ∧ r = .returned (.tuple #[.string ⟨(joinL [] bs).toArray⟩, .int .i64 (((p + 7) / 8 : Nat) : Int), .int .i64 0]))) := by
  have CB := Lib.hid (blocks_ok s hs q most hq hm w)
  have hus : u.size ≤ 100000 := by rw [← hu, ByteArray.size_extract]; omega
  rw [hu] at CB
  obtain ⟨RES, HRES⟩ : ∃ x, Hid (inflR u most = x) := ⟨_, Lib.hid (Eq.refl _)⟩
  have e0 : blocksM most (8 * u.size + 1) (sg u 0 0) [] = RES := HRES.out
  rw [e0] at CB
  rw [HRES.out]
  clear hu e0
  go_enter Try.func27, Try.ntmps27
  go_wp2_with fail
  refine CB.out.mono ?_
  rintro r w1 ⟨hb, ⟨e, he, hr, rfl⟩ | ⟨l, p, z, v, BB, hr, hp, hz, rfl, hBB, hS⟩⟩
  · have Hb := Lib.hid hb
    have Hr := Lib.hid hr
    have de : ((e : Int) == 0) = false := by simp; omega
    have de2 : ((e : Int) != 0) = true := by simp; omega
    clear hb hr CB
    go_wp2_with fail
    go_ret3
    exact ⟨Hb.out, .inl ⟨e, he, Hr.out, rfl⟩⟩
  · have Hb := Lib.hid hb
    have Hr := Lib.hid hr
    have ho := HRES.out.trans hr
    obtain ⟨k1, k2, k3, _⟩ := infl_out ho
    have k4 := blocksM_count _ (show blocksM most (8 * u.size + 1) (sg u 0 0) [] = _ from ho)
    have k5 := blks_count _ _ k1
    have k6 : blenS (l.map LBk.b) ≤ 1000000 := by rw [← k2]; omega
    have k7 : l.length ≤ 1000000 := by
      rw [List.length_map] at k4
      have e1 : (sg u 0 0).n = 8 * u.size := rfl
      have e2 : ([] : List Bk).length = 0 := rfl
      omega
    have k8 : ∀ x ∈ l, x.b.toks.length ≤ 1000000 := fun x hx => Nat.le_trans (k5 x.b (List.mem_map_of_mem hx)) k6
    have CJ := Lib.hid (join_any w BB v l w1 hS k1 k6 k7 k8)
    obtain ⟨T, HT⟩ : ∃ x, Hid ((⟨(joinL [] (l.map LBk.b)).toArray⟩ : ByteArray) = x) := ⟨_, Lib.hid (Eq.refl _)⟩
    rw [HT.out] at CJ
    obtain ⟨pl, Hpl⟩ : ∃ x, Hid ((p + 7) / 8 = x) := ⟨_, Lib.hid (Eq.refl _)⟩
    rw [Hpl.out]
    clear hb hr ho k1 k2 k3 k4 k5 k6 k7 k8 hS CB
    go_wp2_with fail
    refine CJ.out.mono ?_
    rintro r w2 ⟨rfl, hb2⟩
    have Hb2 := Lib.hid (bthen Hb.out hb2)
    clear hb2
    go_wp2_with fail
    go_ret3
    exact ⟨Hb2.out, .inr ⟨l.map LBk.b, p, z, Hr.out, hp, by rw [Hpl.out, HT.out]; rfl⟩⟩

theorem inflate_is_ok {s : ByteArray} (hs : s.size ≤ 100000) {q most : Nat} (hq : q ≤ s.size) (hm : most ≤ 65536) {u : ByteArray} (hu : s.extract q s.size = u) {bs : List Bk} {σ : Sg} (h : inflR u most = .ok (bs, σ)) (w : World) :
    Calls Try.prog 27 #[.string s, .int .i64 (q : Int), .int .i64 (most : Int)] w fun r w' => r = .returned (.tuple #[.string ⟨(joinL [] bs).toArray⟩, .int .i64 (((8 * u.size - σ.n + 7) / 8 : Nat) : Int), .int .i64 0]) ∧ Below w.heap.size w w' := by
  refine (inflate_any s hs q most hq hm u hu w).mono ?_
  rintro r w' ⟨hb, ⟨e, _, h2, _⟩ | ⟨bs', p, z, h2, hp, rfl⟩⟩
  · rw [h] at h2; cases h2
  · rw [h] at h2
    injection h2 with h2; injection h2 with h3 h2
    subst h3 h2
    refine ⟨?_, hb⟩
    have e : 8 * u.size - (sg u p z).n = p := by show 8 * u.size - (8 * u.size - p) = p; omega
    rw [e]
theorem inflate_is_err {s : ByteArray} (hs : s.size ≤ 100000) {q most : Nat} (hq : q ≤ s.size) (hm : most ≤ 65536) {u : ByteArray} (hu : s.extract q s.size = u) {e : Nat} (h : inflR u most = .error e) (w : World) :
    Calls Try.prog 27 #[.string s, .int .i64 (q : Int), .int .i64 (most : Int)] w fun r w' => r = .returned (.tuple #[.string ⟨#[]⟩, .int .i64 0, .int .i64 (e : Int)]) ∧ Below w.heap.size w w' := by
  refine (inflate_any s hs q most hq hm u hu w).mono ?_
  rintro r w' ⟨hb, ⟨e', _, h2, rfl⟩ | ⟨bs', p, z, h2, hp, rfl⟩⟩
  · rw [h] at h2
    injection h2 with h2
    subst h2
    exact ⟨rfl, hb⟩
  · rw [h] at h2; cases h2
theorem extract_all (s : ByteArray) : s.extract 0 s.size = s := by simp
end Go.Proofs.Ytjnglahjngiofaa
