/- The walk of names.Unspell, joined. Written by gen_uns.py. -/
import Derived.Test.YtkidefmkgcankaaUns
namespace Go.Proofs.Ytkidefmkgcankaa
open Go.RowKit
theorem mu_lt {n k : Nat} (h : k + 1 < n) : 2 * (n - (k + 1)) + 1 < 2 * (n - k) := by omega
set_option maxRecDepth 100000 in
set_option maxHeartbeats 2000000 in
theorem pass (s : ByteArray) (w : World) (hs : s.size ≤ 1000000) (l : Nat) (a : Act) (w' : World) (h : UJ s w l a w') :
    (unsAt l).wp Try.prog (jumps (fun l' a' w'' => UJ s w l' a' w'' ∧ Umu s l' a' w'' < Umu s l a w') (UQ s w)) a w' := by
  have m0 : ∀ a' w'', Umu s 0 a' w'' = 0 := fun _ _ => rfl
  have m1 : ∀ a' w'' (i : Nat), a'.tmps.getD 8 undef = .int .i64 (i : Int) → Umu s 1 a' w'' = 2 * (s.size - i) := fun a' w'' i hi => by
    unfold Umu
    rw [hi]
    rfl
  have m2 : ∀ a' w'' (i : Nat), a'.tmps.getD 8 undef = .int .i64 (i : Int) → Umu s 2 a' w'' = 2 * (s.size - i) + 1 := fun a' w'' i hi => by
    unfold Umu
    rw [hi]
    rfl
  obtain ⟨u4, h⟩ := h
  obtain ⟨u5, h⟩ := h
  obtain ⟨u6, h⟩ := h
  obtain ⟨u7, h⟩ := h
  obtain ⟨u8, h⟩ := h
  obtain ⟨u9, h⟩ := h
  obtain ⟨u10, h⟩ := h
  obtain ⟨u11, h⟩ := h
  obtain ⟨u12, h⟩ := h
  obtain ⟨u13, h⟩ := h
  obtain ⟨u14, h⟩ := h
  obtain ⟨u15, h⟩ := h
  obtain ⟨u16, h⟩ := h
  obtain ⟨u17, h⟩ := h
  obtain ⟨u18, h⟩ := h
  obtain ⟨u19, h⟩ := h
  obtain ⟨u20, h⟩ := h
  obtain ⟨u21, h⟩ := h
  obtain ⟨u22, h⟩ := h
  obtain ⟨u23, h⟩ := h
  obtain ⟨u24, h⟩ := h
  obtain ⟨u25, h⟩ := h
  obtain ⟨u26, h⟩ := h
  obtain ⟨u27, h⟩ := h
  obtain ⟨u28, h⟩ := h
  obtain ⟨u29, h⟩ := h
  obtain ⟨u30, h⟩ := h
  obtain ⟨u31, h⟩ := h
  obtain ⟨u32, h⟩ := h
  obtain ⟨u33, h⟩ := h
  obtain ⟨u34, h⟩ := h
  obtain ⟨u35, h⟩ := h
  obtain ⟨u36, h⟩ := h
  obtain ⟨u37, h⟩ := h
  obtain ⟨u38, h⟩ := h
  obtain ⟨u39, h⟩ := h
  obtain ⟨u40, h⟩ := h
  obtain ⟨u41, h⟩ := h
  obtain ⟨u42, h⟩ := h
  obtain ⟨u43, h⟩ := h
  obtain ⟨u44, h⟩ := h
  obtain ⟨u45, h⟩ := h
  obtain ⟨u46, h⟩ := h
  obtain ⟨u47, h⟩ := h
  obtain ⟨u48, h⟩ := h
  obtain ⟨u49, h⟩ := h
  obtain ⟨u50, h⟩ := h
  obtain ⟨u51, h⟩ := h
  obtain ⟨u52, h⟩ := h
  obtain ⟨u53, h⟩ := h
  obtain ⟨u54, h⟩ := h
  obtain ⟨u55, h⟩ := h
  obtain ⟨u56, h⟩ := h
  obtain ⟨u57, h⟩ := h
  obtain ⟨u58, h⟩ := h
  obtain ⟨u59, h⟩ := h
  obtain ⟨u60, h⟩ := h
  obtain ⟨u61, h⟩ := h
  obtain ⟨u62, h⟩ := h
  obtain ⟨u63, h⟩ := h
  obtain ⟨u64, h⟩ := h
  obtain ⟨u65, h⟩ := h
  obtain ⟨u66, h⟩ := h
  obtain ⟨u67, h⟩ := h
  obtain ⟨u68, h⟩ := h
  obtain ⟨u69, h⟩ := h
  obtain ⟨u70, h⟩ := h
  obtain ⟨u71, h⟩ := h
  obtain ⟨u72, h⟩ := h
  obtain ⟨u73, h⟩ := h
  obtain ⟨u74, h⟩ := h
  obtain ⟨u75, h⟩ := h
  obtain ⟨u76, h⟩ := h
  obtain ⟨u77, h⟩ := h
  obtain ⟨u78, h⟩ := h
  obtain ⟨u79, h⟩ := h
  obtain ⟨u80, h⟩ := h
  obtain ⟨u81, h⟩ := h
  obtain ⟨u82, h⟩ := h
  obtain ⟨u83, h⟩ := h
  obtain ⟨u84, h⟩ := h
  obtain ⟨u85, h⟩ := h
  obtain ⟨u86, h⟩ := h
  obtain ⟨u87, h⟩ := h
  obtain ⟨u88, h⟩ := h
  obtain ⟨u89, h⟩ := h
  obtain ⟨u90, h⟩ := h
  obtain ⟨u91, h⟩ := h
  obtain ⟨rfl, h⟩ := h
  rcases h with ⟨rfl, hN, hb⟩ | ⟨rfl, acc, k, rfl, hP, hR⟩ | ⟨rfl, acc, j, rfl, h1, h2, h3, hP, hR⟩
  · exact pass0 s w _ _ _ _ _ _ _ _ _ _ _ _ _ _ _ _ _ _ _ _ _ _ _ _ _ _ _ _ _ _ _ _ _ _ _ _ _ _ _ _ _ _ _ _ _ _ _ _ _ _ _ _ _ _ _ _ _ _ _ _ _ _ _ _ _ _ _ _ _ _ _ _ _ _ _ _ _ _ _ _ _ _ _ _ _ _ _ _ _ _ hN hb
  · have hk := hP.le
    have h2 := hP.two
    have hm := m1 { tmps := (.string s :: undef :: .string ⟨#[]⟩ :: .int .i64 0 :: u4 :: u5 :: u6 :: u7 :: .int .i64 (k : Int) :: u9 :: u10 :: u11 :: u12 :: u13 :: u14 :: u15 :: u16 :: u17 :: u18 :: u19 :: u20 :: u21 :: u22 :: u23 :: u24 :: u25 :: u26 :: u27 :: u28 :: u29 :: u30 :: u31 :: u32 :: u33 :: u34 :: u35 :: u36 :: u37 :: u38 :: u39 :: u40 :: u41 :: u42 :: u43 :: u44 :: u45 :: u46 :: u47 :: u48 :: u49 :: u50 :: u51 :: u52 :: u53 :: u54 :: u55 :: u56 :: u57 :: u58 :: u59 :: u60 :: u61 :: u62 :: u63 :: u64 :: u65 :: u66 :: u67 :: u68 :: u69 :: u70 :: u71 :: u72 :: u73 :: u74 :: u75 :: u76 :: u77 :: u78 :: u79 :: u80 :: u81 :: u82 :: u83 :: u84 :: u85 :: u86 :: u87 :: u88 :: u89 :: u90 :: u91 :: []).toArray, defers := [] } w' k rfl
    show (Code.seq .skip unsBody).wp _ _ _ _
    apply wp_seq
    apply wp_skip
    refine pass1 s w hs _ _ _ _ _ k acc _ _ _ _ _ _ _ _ _ _ _ _ _ _ _ _ _ _ _ _ _ _ _ _ _ _ _ _ _ _ _ _ _ _ _ _ _ _ _ _ _ _ _ _ _ _ _ _ _ _ _ _ _ _ _ _ _ _ _ _ _ _ _ _ _ _ _ _ _ _ _ _ _ _ _ _ _ _ _ _ _ _ _ _ hP hR (fun a' w'' h => ?_) (fun a' w'' h => ?_) (fun a' w'' h => ?_)
    · refine ⟨UF.mono (R' := UR s w 0) (fun v i h => .inl ⟨rfl, h⟩) h, ?_⟩
      rw [m0, hm]
      omega
    · refine ⟨UF.mono (R' := UR s w 1) (fun v i h => ?_) h, ?_⟩
      · obtain ⟨acc, hi, hP, hR⟩ := h
        exact .inr (.inl ⟨rfl, acc, _, hi, hP, hR⟩)
      · obtain ⟨v, acc, hi, _⟩ := UF.get h
        rw [m1 a' w'' _ hi, hm]
        omega
    · refine ⟨UF.mono (R' := UR s w 2) (fun v i h => ?_) h, ?_⟩
      · obtain ⟨hi, hk, h92, hR⟩ := h
        exact .inr (.inr ⟨rfl, acc, _, hi, by omega, hk, h92, hP, hR⟩)
      · obtain ⟨v, hi, hk2, _⟩ := UF.get h
        rw [m2 a' w'' _ hi, hm]
        exact mu_lt hk2
  · have hm := m2 { tmps := (.string s :: undef :: .string ⟨#[]⟩ :: .int .i64 0 :: u4 :: u5 :: u6 :: u7 :: .int .i64 (j : Int) :: u9 :: u10 :: u11 :: u12 :: u13 :: u14 :: u15 :: u16 :: u17 :: u18 :: u19 :: u20 :: u21 :: u22 :: u23 :: u24 :: u25 :: u26 :: u27 :: u28 :: u29 :: u30 :: u31 :: u32 :: u33 :: u34 :: u35 :: u36 :: u37 :: u38 :: u39 :: u40 :: u41 :: u42 :: u43 :: u44 :: u45 :: u46 :: u47 :: u48 :: u49 :: u50 :: u51 :: u52 :: u53 :: u54 :: u55 :: u56 :: u57 :: u58 :: u59 :: u60 :: u61 :: u62 :: u63 :: u64 :: u65 :: u66 :: u67 :: u68 :: u69 :: u70 :: u71 :: u72 :: u73 :: u74 :: u75 :: u76 :: u77 :: u78 :: u79 :: u80 :: u81 :: u82 :: u83 :: u84 :: u85 :: u86 :: u87 :: u88 :: u89 :: u90 :: u91 :: []).toArray, defers := [] } w' j rfl
    refine pass2 s w hs _ _ _ _ _ j acc _ _ _ _ _ _ _ _ _ _ _ _ _ _ _ _ _ _ _ _ _ _ _ _ _ _ _ _ _ _ _ _ _ _ _ _ _ _ _ _ _ _ _ _ _ _ _ _ _ _ _ _ _ _ _ _ _ _ _ _ _ _ _ _ _ _ _ _ _ _ _ _ _ _ _ _ _ _ _ _ _ _ _ _ hP hR h1 h2 h3 (fun a' w'' h => ?_) (fun a' w'' h => ?_)
    · refine ⟨UF.mono (R' := UR s w 0) (fun v i h => .inl ⟨rfl, h⟩) h, ?_⟩
      rw [m0, hm]
      omega
    · refine ⟨UF.mono (R' := UR s w 1) (fun v i h => ?_) h, ?_⟩
      · obtain ⟨acc, hi, hP, hR⟩ := h
        exact .inr (.inl ⟨rfl, acc, _, hi, hP, hR⟩)
      · obtain ⟨v, acc, hi, _⟩ := UF.get h
        rw [m1 a' w'' _ hi, hm]
        omega

set_option maxRecDepth 100000 in
set_option maxHeartbeats 2000000 in
theorem uns_any (s : ByteArray) (w : World) (hs : s.size ≤ 1000000) :
    Calls Try.prog 8 #[.string s] w (UnPost s w) := by
  go_enter Try.func8, Try.ntmps8
  go_wp2_with fail
  refine wp_scope_many (UJ s w) (Umu s) (first s w hs _ fun _ _ _ h => h) ?_
  intro l a' w' h
  refine ⟨unsAt l, ?_, ?_⟩
  · obtain ⟨v, hv⟩ := UF.get h
    rcases hv with ⟨rfl, _⟩ | ⟨rfl, _⟩ | ⟨rfl, _⟩ <;> rfl
  · exact pass s w hs l a' w' h
end Go.Proofs.Ytkidefmkgcankaa
