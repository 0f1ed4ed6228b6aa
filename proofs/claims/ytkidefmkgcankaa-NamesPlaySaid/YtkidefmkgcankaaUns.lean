/- The walk of names.Unspell: a text with jumps (three labels). Written by gen_uns.py. -/
import Derived.Test.YtkidefmkgcankaaUnsSpec
import Derived.WalkMore
import Derived.Lib.Bytealg
import Derived.Deep.QuietTactic
namespace Go.Proofs.Ytkidefmkgcankaa
open Go.RowKit

def bt (s : ByteArray) (k : Nat) : Int := (bytesI s).getD k 0
theorem bt_at {s : ByteArray} {k : Nat} (h : k < s.size) : (bytesI s)[k]? = some (bt s k) := by
  have hl : k < (bytesI s).length := by rw [bytesI_length]; exact h
  rw [bt, List.getD_eq_getElem?_getD, List.getElem?_eq_getElem hl]
  rfl
theorem bt_byte {s : ByteArray} {k : Nat} (h : k < s.size) : 0 ≤ bt s k ∧ bt s k ≤ 255 := bytesI_byte s _ (List.mem_of_getElem? (bt_at h))
theorem index_bt {s : ByteArray} {i : Int} {k : Nat} (hi : i = k) (h : k < s.size) (W : World) : (Instr.index 9 (.string s) (.int .i64 i)).run Try.prog W = .ok (.int .u8 (bt s k)) W := by
  subst hi
  rw [run_index_string _ _ _ _ _ Try.underlying9, dif_pos ⟨by omega, by omega⟩]
  have : bt s k = (s[k].toNat : Int) := by
    have := bytesI_getElem s k h
    rw [← this, bt, List.getD_eq_getElem?_getD, List.getElem?_eq_getElem (by rw [bytesI_length]; exact h)]
    rfl
  rw [this]
  rfl

def UnPost (s : ByteArray) (w : World) (e : Ending) (w' : World) : Prop :=
  ((∃ x, Spelt s x ∧ e = .returned (.tuple #[.string (strI x), .int .i64 0])) ∨ (NoSpell s ∧ e = .returned (.tuple #[.string ⟨#[]⟩, .int .i64 160]))) ∧ Below w.heap.size w w'

def URow (s : ByteArray) (w : World) (v : Value) (acc : List Int) (w' : World) : Prop := w'.ownsRow w.heap.size 5 1 v acc.length (acc.map (Value.int .u8)) ∧ Below w.heap.size w w'
def UR (s : ByteArray) (w : World) (l : Nat) (v i : Value) (w' : World) : Prop :=
  (l = 0 ∧ NoSpell s ∧ Below w.heap.size w w') ∨
  (l = 1 ∧ ∃ acc k, i = .int .i64 (k : Nat) ∧ Pre s acc k ∧ URow s w v acc w') ∨
  (l = 2 ∧ ∃ acc j, i = .int .i64 (j : Nat) ∧ 1 ≤ j ∧ j < s.size ∧ (bytesI s)[j - 1]? = some 92 ∧ Pre s acc (j - 1) ∧ URow s w v acc w')
set_option maxRecDepth 100000 in
abbrev UF (s : ByteArray) (R : Value → Value → World → Prop) (a : Act) (w' : World) : Prop :=
  ∃ u4 u5 u6 u7 u8 u9 u10 u11 u12 u13 u14 u15 u16 u17 u18 u19 u20 u21 u22 u23 u24 u25 u26 u27 u28 u29 u30 u31 u32 u33 u34 u35 u36 u37 u38 u39 u40 u41 u42 u43 u44 u45 u46 u47 u48 u49 u50 u51 u52 u53 u54 u55 u56 u57 u58 u59 u60 u61 u62 u63 u64 u65 u66 u67 u68 u69 u70 u71 u72 u73 u74 u75 u76 u77 u78 u79 u80 u81 u82 u83 u84 u85 u86 u87 u88 u89 u90 u91 : Value, a = { tmps := (.string s :: undef :: .string ⟨#[]⟩ :: .int .i64 0 :: u4 :: u5 :: u6 :: u7 :: u8 :: u9 :: u10 :: u11 :: u12 :: u13 :: u14 :: u15 :: u16 :: u17 :: u18 :: u19 :: u20 :: u21 :: u22 :: u23 :: u24 :: u25 :: u26 :: u27 :: u28 :: u29 :: u30 :: u31 :: u32 :: u33 :: u34 :: u35 :: u36 :: u37 :: u38 :: u39 :: u40 :: u41 :: u42 :: u43 :: u44 :: u45 :: u46 :: u47 :: u48 :: u49 :: u50 :: u51 :: u52 :: u53 :: u54 :: u55 :: u56 :: u57 :: u58 :: u59 :: u60 :: u61 :: u62 :: u63 :: u64 :: u65 :: u66 :: u67 :: u68 :: u69 :: u70 :: u71 :: u72 :: u73 :: u74 :: u75 :: u76 :: u77 :: u78 :: u79 :: u80 :: u81 :: u82 :: u83 :: u84 :: u85 :: u86 :: u87 :: u88 :: u89 :: u90 :: u91 :: []).toArray, defers := [] } ∧ R u4 u8 w'
set_option maxRecDepth 100000 in
theorem UF.get {s : ByteArray} {R : Value → Value → World → Prop} {a : Act} {w' : World} (h : UF s R a w') : ∃ v, R v (a.tmps.getD 8 undef) w' :=
  h.elim fun u4 h => h.elim fun u5 h => h.elim fun u6 h => h.elim fun u7 h => h.elim fun u8 h => h.elim fun u9 h => h.elim fun u10 h => h.elim fun u11 h => h.elim fun u12 h => h.elim fun u13 h => h.elim fun u14 h => h.elim fun u15 h => h.elim fun u16 h => h.elim fun u17 h => h.elim fun u18 h => h.elim fun u19 h => h.elim fun u20 h => h.elim fun u21 h => h.elim fun u22 h => h.elim fun u23 h => h.elim fun u24 h => h.elim fun u25 h => h.elim fun u26 h => h.elim fun u27 h => h.elim fun u28 h => h.elim fun u29 h => h.elim fun u30 h => h.elim fun u31 h => h.elim fun u32 h => h.elim fun u33 h => h.elim fun u34 h => h.elim fun u35 h => h.elim fun u36 h => h.elim fun u37 h => h.elim fun u38 h => h.elim fun u39 h => h.elim fun u40 h => h.elim fun u41 h => h.elim fun u42 h => h.elim fun u43 h => h.elim fun u44 h => h.elim fun u45 h => h.elim fun u46 h => h.elim fun u47 h => h.elim fun u48 h => h.elim fun u49 h => h.elim fun u50 h => h.elim fun u51 h => h.elim fun u52 h => h.elim fun u53 h => h.elim fun u54 h => h.elim fun u55 h => h.elim fun u56 h => h.elim fun u57 h => h.elim fun u58 h => h.elim fun u59 h => h.elim fun u60 h => h.elim fun u61 h => h.elim fun u62 h => h.elim fun u63 h => h.elim fun u64 h => h.elim fun u65 h => h.elim fun u66 h => h.elim fun u67 h => h.elim fun u68 h => h.elim fun u69 h => h.elim fun u70 h => h.elim fun u71 h => h.elim fun u72 h => h.elim fun u73 h => h.elim fun u74 h => h.elim fun u75 h => h.elim fun u76 h => h.elim fun u77 h => h.elim fun u78 h => h.elim fun u79 h => h.elim fun u80 h => h.elim fun u81 h => h.elim fun u82 h => h.elim fun u83 h => h.elim fun u84 h => h.elim fun u85 h => h.elim fun u86 h => h.elim fun u87 h => h.elim fun u88 h => h.elim fun u89 h => h.elim fun u90 h => h.elim fun u91 h => ⟨u4, by rw [h.1]; exact h.2⟩
set_option maxRecDepth 100000 in
theorem UF.mono {s : ByteArray} {R R' : Value → Value → World → Prop} {a : Act} {w' : World} (hm : ∀ v i, R v i w' → R' v i w') (h : UF s R a w') : UF s R' a w' :=
  h.imp fun u4 => Exists.imp fun u5 => Exists.imp fun u6 => Exists.imp fun u7 => Exists.imp fun u8 => Exists.imp fun u9 => Exists.imp fun u10 => Exists.imp fun u11 => Exists.imp fun u12 => Exists.imp fun u13 => Exists.imp fun u14 => Exists.imp fun u15 => Exists.imp fun u16 => Exists.imp fun u17 => Exists.imp fun u18 => Exists.imp fun u19 => Exists.imp fun u20 => Exists.imp fun u21 => Exists.imp fun u22 => Exists.imp fun u23 => Exists.imp fun u24 => Exists.imp fun u25 => Exists.imp fun u26 => Exists.imp fun u27 => Exists.imp fun u28 => Exists.imp fun u29 => Exists.imp fun u30 => Exists.imp fun u31 => Exists.imp fun u32 => Exists.imp fun u33 => Exists.imp fun u34 => Exists.imp fun u35 => Exists.imp fun u36 => Exists.imp fun u37 => Exists.imp fun u38 => Exists.imp fun u39 => Exists.imp fun u40 => Exists.imp fun u41 => Exists.imp fun u42 => Exists.imp fun u43 => Exists.imp fun u44 => Exists.imp fun u45 => Exists.imp fun u46 => Exists.imp fun u47 => Exists.imp fun u48 => Exists.imp fun u49 => Exists.imp fun u50 => Exists.imp fun u51 => Exists.imp fun u52 => Exists.imp fun u53 => Exists.imp fun u54 => Exists.imp fun u55 => Exists.imp fun u56 => Exists.imp fun u57 => Exists.imp fun u58 => Exists.imp fun u59 => Exists.imp fun u60 => Exists.imp fun u61 => Exists.imp fun u62 => Exists.imp fun u63 => Exists.imp fun u64 => Exists.imp fun u65 => Exists.imp fun u66 => Exists.imp fun u67 => Exists.imp fun u68 => Exists.imp fun u69 => Exists.imp fun u70 => Exists.imp fun u71 => Exists.imp fun u72 => Exists.imp fun u73 => Exists.imp fun u74 => Exists.imp fun u75 => Exists.imp fun u76 => Exists.imp fun u77 => Exists.imp fun u78 => Exists.imp fun u79 => Exists.imp fun u80 => Exists.imp fun u81 => Exists.imp fun u82 => Exists.imp fun u83 => Exists.imp fun u84 => Exists.imp fun u85 => Exists.imp fun u86 => Exists.imp fun u87 => Exists.imp fun u88 => Exists.imp fun u89 => Exists.imp fun u90 => Exists.imp fun u91 h => ⟨h.1, hm _ _ h.2⟩
def UJ (s : ByteArray) (w : World) (l : Nat) (a : Act) (w' : World) : Prop := UF s (UR s w l) a w'
def Umu (s : ByteArray) (l : Nat) (a : Act) (_ : World) : Nat :=
  if l = 0 then 0 else if l = 1 then 2 * (s.size - (intOf (a.tmps.getD 8 undef)).toNat) else 2 * (s.size - (intOf (a.tmps.getD 8 undef)).toNat) + 1

def firstScope : Code → Option Code
  | .scope c => some c
  | .seq a b => match firstScope a with
    | some c => some c
    | none => firstScope b
  | _ => none
noncomputable def unsScope : Code := ((Try.f8.body.bind firstScope).getD .skip)
noncomputable def unsAt (l : Nat) : Code := (findLabel unsScope l).getD .skip
def behind : Code → Code
  | .seq _ c => c
  | c => c
noncomputable def unsBody : Code := behind (unsAt 1)

abbrev UQ (s : ByteArray) (w : World) := bodyPost Try.prog Try.f8 (UnPost s w)

set_option maxRecDepth 100000 in
set_option maxHeartbeats 1000000 in
theorem pass0 (s : ByteArray) (w : World) (J : Nat → Act → World → Prop) (u4 u5 u6 u7 u8 u9 u10 u11 u12 u13 u14 u15 u16 u17 u18 u19 u20 u21 u22 u23 u24 u25 u26 u27 u28 u29 u30 u31 u32 u33 u34 u35 u36 u37 u38 u39 u40 u41 u42 u43 u44 u45 u46 u47 u48 u49 u50 u51 u52 u53 u54 u55 u56 u57 u58 u59 u60 u61 u62 u63 u64 u65 u66 u67 u68 u69 u70 u71 u72 u73 u74 u75 u76 u77 u78 u79 u80 u81 u82 u83 u84 u85 u86 u87 u88 u89 u90 u91 : Value) (w' : World) (h : NoSpell s) (hb : Below w.heap.size w w') :
    (unsAt 0).wp Try.prog (jumps J (UQ s w)) { tmps := (.string s :: undef :: .string ⟨#[]⟩ :: .int .i64 0 :: u4 :: u5 :: u6 :: u7 :: u8 :: u9 :: u10 :: u11 :: u12 :: u13 :: u14 :: u15 :: u16 :: u17 :: u18 :: u19 :: u20 :: u21 :: u22 :: u23 :: u24 :: u25 :: u26 :: u27 :: u28 :: u29 :: u30 :: u31 :: u32 :: u33 :: u34 :: u35 :: u36 :: u37 :: u38 :: u39 :: u40 :: u41 :: u42 :: u43 :: u44 :: u45 :: u46 :: u47 :: u48 :: u49 :: u50 :: u51 :: u52 :: u53 :: u54 :: u55 :: u56 :: u57 :: u58 :: u59 :: u60 :: u61 :: u62 :: u63 :: u64 :: u65 :: u66 :: u67 :: u68 :: u69 :: u70 :: u71 :: u72 :: u73 :: u74 :: u75 :: u76 :: u77 :: u78 :: u79 :: u80 :: u81 :: u82 :: u83 :: u84 :: u85 :: u86 :: u87 :: u88 :: u89 :: u90 :: u91 :: []).toArray, defers := [] } w' := by
  conv => arg 2; whnf
  go_wp2
  show bodyPost Try.prog Try.f8 (UnPost s w) .ret _ _
  go_ret2
  exact ⟨.inr ⟨h, rfl⟩, hb⟩

theorem or_nat : ∀ p q : Fin 16, (p.val * 16 ||| q.val) = 16 * p.val + q.val := by decide +kernel
theorem or16 {h l : Int} (h0 : 0 ≤ h) (h1 : h ≤ 15) (l0 : 0 ≤ l) (l1 : l ≤ 15) : bits BinOp.or IntKind.i64 (h * 16) l % 256 = 16 * h + l := by
  obtain ⟨p, rfl⟩ : ∃ p : Nat, h = p := ⟨h.toNat, by omega⟩
  obtain ⟨q, rfl⟩ : ∃ q : Nat, l = q := ⟨l.toNat, by omega⟩
  have hx := or_nat ⟨p, by omega⟩ ⟨q, by omega⟩
  simp only at hx
  have ofI : ∀ a : Nat, a < 9223372036854775808 → (BitVec.ofInt 64 (a : Int)).toNat = a := fun a ha => by
    rw [BitVec.ofInt_natCast, BitVec.toNat_ofNat]; exact Nat.mod_eq_of_lt (by omega)
  have e : bits BinOp.or IntKind.i64 ((p : Int) * 16) q = ((16 * p + q : Nat) : Int) := by
    show IntKind.i64.wrap ((BitVec.ofInt 64 ((p : Int) * 16) ||| BitVec.ofInt 64 (q : Int)).toNat : Int) = _
    rw [show ((p : Int) * 16) = ((p * 16 : Nat) : Int) from by omega, BitVec.toNat_or, ofI _ (by omega), ofI _ (by omega), hx, IntKind.wrap_i64]
    omega
  rw [e]
  omega
theorem hv_at : ∀ c : Fin 256, Lib.indexByte [48, 49, 50, 51, 52, 53, 54, 55, 56, 57, 97, 98, 99, 100, 101, 102] c.val.toUInt8 = hv (c.val : Int) := by decide +kernel
set_option maxHeartbeats 1000000 in
theorem ixhex (c : Int) (w : World) (h0 : 0 ≤ c) (h1 : c ≤ 255) :
    Calls Try.prog 26 #[.string ⟨#[48, 49, 50, 51, 52, 53, 54, 55, 56, 57, 97, 98, 99, 100, 101, 102]⟩, .int .u8 c] w fun e w' => e = .returned (.int .i64 (hv c)) ∧ w' = w := by
  have hcall : ∀ W : World, (callFunc 53 #[.string ⟨#[48, 49, 50, 51, 52, 53, 54, 55, 56, 57, 97, 98, 99, 100, 101, 102]⟩, .int .u8 c]).run Try.prog W = .ok (.value (.int .i64 (hv c))) W := fun W => by
    rw [run_callFunc_extern Try.func53 (by kernel_rfl) (by kernel_rfl) (by kernel_rfl) (e := Extern.BytealgIndexByte.indexByte) (by kernel_rfl), Lib.run_indexByteString]
    have := hv_at ⟨c.toNat, by omega⟩
    simp only [show ((c.toNat : Nat) : Int) = c from by omega] at this
    rw [← this]
    rfl
  go_enter Try.func26, Try.ntmps26
  go_wp2
  go_ret
  exact ⟨rfl, rfl⟩
theorem spellI_ge (l : List Int) : l.length ≤ (spellI l).length := by
  induction l with
  | nil => simp
  | cons c l ih =>
    have : 1 ≤ (spell1 c).length := by unfold spell1; split <;> simp
    simp only [spellI, List.flatMap_cons, List.length_append, List.length_cons] at ih ⊢
    omega
theorem Pre.acc_le {s : ByteArray} {acc : List Int} {k : Nat} (h : Pre s acc k) : acc.length ≤ s.size := by
  have := spellI_ge acc
  have := h.len
  have := h.le
  omega
set_option maxRecDepth 100000 in
set_option maxHeartbeats 1000000 in
theorem pass1 (s : ByteArray) (w : World) (hs : s.size ≤ 1000000) (J : Nat → Act → World → Prop) (u4 u5 u6 u7 : Value) (k : Nat) (acc : List Int) (u9 u10 u11 u12 u13 u14 u15 u16 u17 u18 u19 u20 u21 u22 u23 u24 u25 u26 u27 u28 u29 u30 u31 u32 u33 u34 u35 u36 u37 u38 u39 u40 u41 u42 u43 u44 u45 u46 u47 u48 u49 u50 u51 u52 u53 u54 u55 u56 u57 u58 u59 u60 u61 u62 u63 u64 u65 u66 u67 u68 u69 u70 u71 u72 u73 u74 u75 u76 u77 u78 u79 u80 u81 u82 u83 u84 u85 u86 u87 u88 u89 u90 u91 : Value) (w' : World) (hp : Pre s acc k) (hr : URow s w u4 acc w')
    (hJ0 : ∀ a w', UF s (fun _ _ w' => NoSpell s ∧ Below w.heap.size w w') a w' → J 0 a w')
    (hJ1 : ∀ a w', UF s (fun v i w' => ∃ acc, i = .int .i64 ((k + 1 : Nat) : Int) ∧ Pre s acc (k + 1) ∧ URow s w v acc w') a w' → J 1 a w')
    (hJ2 : ∀ a w', UF s (fun v i w' => i = .int .i64 ((k + 1 : Nat) : Int) ∧ k + 1 < s.size ∧ (bytesI s)[k]? = some 92 ∧ URow s w v acc w') a w' → J 2 a w') :
    unsBody.wp Try.prog (jumps J (UQ s w)) { tmps := (.string s :: undef :: .string ⟨#[]⟩ :: .int .i64 0 :: u4 :: u5 :: u6 :: u7 :: .int .i64 (k : Int) :: u9 :: u10 :: u11 :: u12 :: u13 :: u14 :: u15 :: u16 :: u17 :: u18 :: u19 :: u20 :: u21 :: u22 :: u23 :: u24 :: u25 :: u26 :: u27 :: u28 :: u29 :: u30 :: u31 :: u32 :: u33 :: u34 :: u35 :: u36 :: u37 :: u38 :: u39 :: u40 :: u41 :: u42 :: u43 :: u44 :: u45 :: u46 :: u47 :: u48 :: u49 :: u50 :: u51 :: u52 :: u53 :: u54 :: u55 :: u56 :: u57 :: u58 :: u59 :: u60 :: u61 :: u62 :: u63 :: u64 :: u65 :: u66 :: u67 :: u68 :: u69 :: u70 :: u71 :: u72 :: u73 :: u74 :: u75 :: u76 :: u77 :: u78 :: u79 :: u80 :: u81 :: u82 :: u83 :: u84 :: u85 :: u86 :: u87 :: u88 :: u89 :: u90 :: u91 :: []).toArray, defers := [] } w' := by
  have hk := hp.le
  have h2 := hp.two
  have hlen := hp.acc_le
  have G2 : Hid (acc.length + 1 ≤ maxLen) := hide (by unfold maxLen; omega)
  have hB := hr.2.size
  conv => arg 2; whnf
  by_cases he : k = s.size - 1
  · have hcv := conv_own (src := 68) (dst := 9) Try.underlying68 Try.underlying5 Try.underlying9 hr.1
    have hd := hp.done he
    have HE := Lib.hid he
    have hee : ((k : Int) == (s.size : Int) - 1) = true := by simp; omega
    clear he
    go_wp2
    show bodyPost Try.prog Try.f8 (UnPost s w) .ret _ _
    go_ret2
    exact ⟨.inl ⟨acc, hd, rfl⟩, hr.2⟩
  · have hk' : k < s.size - 1 := by omega
    have hee : ((k : Int) == (s.size : Int) - 1) = false := by simp; omega
    clear he
    have hix := index_bt (s := s) (i := (k : Int)) rfl (by omega)
    have hb := bt_byte (s := s) (k := k) (by omega)
    have hat := bt_at (s := s) (k := k) (by omega)
    obtain ⟨c, hc⟩ : ∃ c, c = bt s k := ⟨_, rfl⟩
    rw [← hc] at hb hat
    simp only [← hc] at hix
    clear hc
    obtain ⟨hb0, hb1⟩ := hb
    have HA := Lib.hid hat; clear hat
    by_cases h92 : c = 92
    · have h92' : (c == 92) = true := by simp [h92]
      have H := Lib.hid h92; clear h92
      go_wp2
      go_step3
      show J 2 _ _
      refine hJ2 _ _ ⟨_, _, _, _, _, _, _, _, _, _, _, _, _, _, _, _, _, _, _, _, _, _, _, _, _, _, _, _, _, _, _, _, _, _, _, _, _, _, _, _, _, _, _, _, _, _, _, _, _, _, _, _, _, _, _, _, _, _, _, _, _, _, _, _, _, _, _, _, _, _, _, _, _, _, _, _, _, _, _, _, _, _, _, _, _, _, _, _, rfl, by go_num, by omega, ?_, hr⟩
      rw [HA.out, H.out]
    · have h92' : (c == 92) = false := by simp [h92]
      have H := Lib.hid h92; clear h92
      by_cases hpl : plainB c = true
      · go_wp2_with (first | (go_at_call 25; refine (plain_any c _ hb0 hb1).mono ?_; rintro e w' ⟨rfl, rfl⟩) | (at_builtin; refine wpList_app rfl (.tmp 42) (.tmp 44) 68 rfl w.heap.size (.int .u8 0) 1 1 info5 Try.underlying68 rfl (by decide) _ _ _ rfl hr.1 1 1 rfl rfl ?c1 G2.out ?c3 hB ?_))
        case c1 => intro u hu; simp at hu; subst hu; rfl
        case c3 => omega
        intro v' w1 hown hg hsz hat
        have R : URow s w v' (acc ++ [c]) w1 := ⟨by simpa using hown, hr.2.grown hg hB (fun g e => (hr.1.lt g e).1)⟩
        have P := hp.plain hk' HA.out hpl
        clear hown hg hsz hat hix
        go_wp2
        go_step3
        show J 1 _ _
        exact hJ1 _ _ ⟨_, _, _, _, _, _, _, _, _, _, _, _, _, _, _, _, _, _, _, _, _, _, _, _, _, _, _, _, _, _, _, _, _, _, _, _, _, _, _, _, _, _, _, _, _, _, _, _, _, _, _, _, _, _, _, _, _, _, _, _, _, _, _, _, _, _, _, _, _, _, _, _, _, _, _, _, _, _, _, _, _, _, _, _, _, _, _, _, rfl, _, by go_num, P, R⟩
      · have hpl' : plainB c = false := by simpa using hpl
        clear hpl
        go_wp2_with (go_at_call 25; refine (plain_any c _ hb0 hb1).mono ?_; rintro e w' ⟨rfl, rfl⟩)
        go_step3
        show J 0 _ _
        exact hJ0 _ _ ⟨_, _, _, _, _, _, _, _, _, _, _, _, _, _, _, _, _, _, _, _, _, _, _, _, _, _, _, _, _, _, _, _, _, _, _, _, _, _, _, _, _, _, _, _, _, _, _, _, _, _, _, _, _, _, _, _, _, _, _, _, _, _, _, _, _, _, _, _, _, _, _, _, _, _, _, _, _, _, _, _, _, _, _, _, _, _, _, _, rfl, hp.not_plain hk' HA.out hpl' H.out, hr.2⟩

set_option maxRecDepth 100000 in
set_option maxHeartbeats 2000000 in
theorem pass2 (s : ByteArray) (w : World) (hs : s.size ≤ 1000000) (J : Nat → Act → World → Prop) (u4 u5 u6 u7 : Value) (j : Nat) (acc : List Int) (u9 u10 u11 u12 u13 u14 u15 u16 u17 u18 u19 u20 u21 u22 u23 u24 u25 u26 u27 u28 u29 u30 u31 u32 u33 u34 u35 u36 u37 u38 u39 u40 u41 u42 u43 u44 u45 u46 u47 u48 u49 u50 u51 u52 u53 u54 u55 u56 u57 u58 u59 u60 u61 u62 u63 u64 u65 u66 u67 u68 u69 u70 u71 u72 u73 u74 u75 u76 u77 u78 u79 u80 u81 u82 u83 u84 u85 u86 u87 u88 u89 u90 u91 : Value) (w' : World) (hp : Pre s acc (j - 1)) (hr : URow s w u4 acc w') (hj1 : 1 ≤ j) (hjs : j < s.size) (h92 : (bytesI s)[j - 1]? = some 92)
    (hJ0 : ∀ a w', UF s (fun _ _ w' => NoSpell s ∧ Below w.heap.size w w') a w' → J 0 a w')
    (hJ1 : ∀ a w', UF s (fun v i w' => ∃ acc, i = .int .i64 ((j + 3 : Nat) : Int) ∧ Pre s acc (j + 3) ∧ URow s w v acc w') a w' → J 1 a w') :
    (unsAt 2).wp Try.prog (jumps J (UQ s w)) { tmps := (.string s :: undef :: .string ⟨#[]⟩ :: .int .i64 0 :: u4 :: u5 :: u6 :: u7 :: .int .i64 (j : Int) :: u9 :: u10 :: u11 :: u12 :: u13 :: u14 :: u15 :: u16 :: u17 :: u18 :: u19 :: u20 :: u21 :: u22 :: u23 :: u24 :: u25 :: u26 :: u27 :: u28 :: u29 :: u30 :: u31 :: u32 :: u33 :: u34 :: u35 :: u36 :: u37 :: u38 :: u39 :: u40 :: u41 :: u42 :: u43 :: u44 :: u45 :: u46 :: u47 :: u48 :: u49 :: u50 :: u51 :: u52 :: u53 :: u54 :: u55 :: u56 :: u57 :: u58 :: u59 :: u60 :: u61 :: u62 :: u63 :: u64 :: u65 :: u66 :: u67 :: u68 :: u69 :: u70 :: u71 :: u72 :: u73 :: u74 :: u75 :: u76 :: u77 :: u78 :: u79 :: u80 :: u81 :: u82 :: u83 :: u84 :: u85 :: u86 :: u87 :: u88 :: u89 :: u90 :: u91 :: []).toArray, defers := [] } w' := by
  have hk := hp.le
  have h2 := hp.two
  have hlen := hp.acc_le
  have G2 : Hid (acc.length + 1 ≤ maxLen) := hide (by unfold maxLen; omega)
  have hB := hr.2.size
  have H92 := Lib.hid h92; clear h92
  have ej : j - 1 + 1 = j := by omega
  have Ej := Lib.hid ej; clear ej
  conv => arg 2; whnf
  by_cases hl : j + 3 ≤ s.size - 1
  · have hix0 := index_bt (s := s) (i := (j : Int)) rfl (by omega)
    have hix1 := index_bt (s := s) (i := (j : Int) + 1) (k := j + 1) (by omega) (by omega)
    have hix2 := index_bt (s := s) (i := (j : Int) + 2) (k := j + 2) (by omega) (by omega)
    have hb := bt_byte (s := s) (k := j) (by omega)
    have hb1 := bt_byte (s := s) (k := j + 1) (by omega)
    have hb2 := bt_byte (s := s) (k := j + 2) (by omega)
    have hat := bt_at (s := s) (k := j) (by omega)
    have hat1 := bt_at (s := s) (k := j + 1) (by omega)
    have hat2 := bt_at (s := s) (k := j + 2) (by omega)
    generalize bt s j = x at hix0 hb hat
    generalize bt s (j + 1) = a at hix1 hb1 hat1
    generalize bt s (j + 2) = b at hix2 hb2 hat2
    have HA := Lib.hid hat; clear hat
    have HA1 := Lib.hid hat1; clear hat1
    have HA2 := Lib.hid hat2; clear hat2
    obtain ⟨hb10, hb11⟩ := hb1
    obtain ⟨hb20, hb21⟩ := hb2
    have hll : (j : Int) + 3 ≤ (s.size : Int) - 1 := by omega
    by_cases hx : x = 120
    · have hx' : (x != 120) = false := by simp [hx]
      have HX := Lib.hid hx; clear hx
      go_wp2_with fail
      go_quiet ((first | (go_at_call 26; exact Calls.quiet_of_same (ixhex _ _ (by omega) (by omega)))))
      have ra := hv_range a
      have rb := hv_range b
      by_cases ha : 0 ≤ hv a
      · by_cases hb : 0 ≤ hv b
        · have ha1 : hv a ≤ 15 := by rcases ra with r | r <;> omega
          have hb1' : hv b ≤ 15 := by rcases rb with r | r <;> omega
          clear ra rb
          have hor := or16 ha ha1 hb hb1'
          have HPC := hp.code (a := a) (b := b)
          rw [show j - 1 + 4 = j + 3 from by omega, show j - 1 + 1 = j from by omega, show j - 1 + 2 = j + 1 from by omega, show j - 1 + 3 = j + 2 from by omega] at HPC
          obtain ⟨r, hr'⟩ : ∃ r, r = 16 * hv a + hv b := ⟨_, rfl⟩
          have r0 : 0 ≤ r := by omega
          have r1 : r ≤ 255 := by omega
          rw [← hr'] at hor
          have HR := Lib.hid hr'; clear hr'
          have HC := hide HPC; clear HPC
          generalize hgp : hv a = p at *
          generalize hgq : hv b = q at *
          have HGP := Lib.hid hgp; clear hgp
          have HGQ := Lib.hid hgq; clear hgq
          by_cases hpl : plainB r = true
          · go_wp2_with (go_at_call 25; refine (plain_any r _ r0 r1).mono ?_; rintro e w' ⟨rfl, rfl⟩)
            go_step3
            show J 0 _ _
            refine hJ0 _ _ ⟨_, _, _, _, _, _, _, _, _, _, _, _, _, _, _, _, _, _, _, _, _, _, _, _, _, _, _, _, _, _, _, _, _, _, _, _, _, _, _, _, _, _, _, _, _, _, _, _, _, _, _, _, _, _, _, _, _, _, _, _, _, _, _, _, _, _, _, _, _, _, _, _, _, _, _, _, _, _, _, _, _, _, _, _, _, _, _, _, rfl, fun x hx => ?_, below_drewN hr.2 _⟩
            obtain ⟨_, _, a', b', e1, e2, _, _, e5⟩ := hp.escaped (by omega) H92.out hx
            rw [show j - 1 + 2 = j + 1 from by omega, HA1.out] at e1
            rw [show j - 1 + 3 = j + 2 from by omega, HA2.out] at e2
            injection e1 with e1
            injection e2 with e2
            subst e1 e2
            rw [HGP.out, HGQ.out, ← HR.out, hpl] at e5
            cases e5
          · have hpl' : plainB r = false := by simpa using hpl
            clear hpl
            have hrow : (w'.drewN nq).ownsRow w.heap.size 5 1 u4 acc.length (acc.map (Value.int .u8)) := hr.1
            go_wp2_with (first | (go_at_call 25; refine (plain_any r _ r0 r1).mono ?_; rintro e w' ⟨rfl, rfl⟩) | (at_builtin; refine wpList_app (W := w'.drewN nq) (news := [.int .u8 r]) rfl (.tmp 82) (.tmp 88) 68 rfl w.heap.size (.int .u8 0) 1 1 info5 Try.underlying68 rfl (by decide) _ _ _ rfl hrow 1 1 rfl rfl ?c1 G2.out ?c3 hB ?_))
            case c1 => intro u hu; simp at hu; subst hu; rfl
            case c3 => omega
            intro v' w1 hown hg hsz hat
            have R : URow s w v' (acc ++ [r]) w1 := ⟨by simpa using hown, (below_drewN hr.2 nq).grown hg hB (fun g e => (hr.1.lt g e).1)⟩
            have P := HC.out hl H92.out (by rw [HA.out, HX.out]) HA1.out HA2.out ha hb (by rw [← HR.out]; exact hpl')
            rw [← HR.out] at P
            clear hown hg hsz hat hrow hor
            go_wp2
            go_step3
            show J 1 _ _
            exact hJ1 _ _ ⟨_, _, _, _, _, _, _, _, _, _, _, _, _, _, _, _, _, _, _, _, _, _, _, _, _, _, _, _, _, _, _, _, _, _, _, _, _, _, _, _, _, _, _, _, _, _, _, _, _, _, _, _, _, _, _, _, _, _, _, _, _, _, _, _, _, _, _, _, _, _, _, _, _, _, _, _, _, _, _, _, _, _, _, _, _, _, _, _, rfl, _, by go_num, P, R⟩
        · have hb' : hv b < 0 := by omega
          have hbb : hv b = -1 := by rcases rb with r | r <;> omega
          have HBB := Lib.hid hbb; clear hbb ra rb
          have HPE := hide (fun x => hp.escaped (x := x) (by omega) H92.out)
          generalize hgp : hv a = p at *
          generalize hgq : hv b = q at *
          have HGP := Lib.hid hgp; clear hgp
          have HGQ := Lib.hid hgq; clear hgq
          go_wp2_with fail
          go_step3
          show J 0 _ _
          refine hJ0 _ _ ⟨_, _, _, _, _, _, _, _, _, _, _, _, _, _, _, _, _, _, _, _, _, _, _, _, _, _, _, _, _, _, _, _, _, _, _, _, _, _, _, _, _, _, _, _, _, _, _, _, _, _, _, _, _, _, _, _, _, _, _, _, _, _, _, _, _, _, _, _, _, _, _, _, _, _, _, _, _, _, _, _, _, _, _, _, _, _, _, _, rfl, fun x hx => ?_, below_drewN hr.2 _⟩
          obtain ⟨_, _, a', b', e1, e2, _, e4, _⟩ := HPE.out x hx
          rw [show j - 1 + 3 = j + 2 from by omega, HA2.out] at e2
          injection e2 with e2
          subst e2
          rw [HGQ.out] at e4
          omega
      · have ha' : hv a < 0 := by omega
        clear ra rb
        have HPE := hide (fun x => hp.escaped (x := x) (by omega) H92.out)
        generalize hgp : hv a = p at *
        have HGP := Lib.hid hgp; clear hgp
        go_wp2_with fail
        go_step3
        show J 0 _ _
        refine hJ0 _ _ ⟨_, _, _, _, _, _, _, _, _, _, _, _, _, _, _, _, _, _, _, _, _, _, _, _, _, _, _, _, _, _, _, _, _, _, _, _, _, _, _, _, _, _, _, _, _, _, _, _, _, _, _, _, _, _, _, _, _, _, _, _, _, _, _, _, _, _, _, _, _, _, _, _, _, _, _, _, _, _, _, _, _, _, _, _, _, _, _, _, rfl, fun x hx => ?_, below_drewN hr.2 _⟩
        obtain ⟨_, _, a', b', e1, e2, e3, _, _⟩ := HPE.out x hx
        rw [show j - 1 + 2 = j + 1 from by omega, HA1.out] at e1
        injection e1 with e1
        subst e1
        rw [HGP.out] at e3
        omega
    · have hx' : (x != 120) = true := by simp [hx]
      have HX := hide hx; clear hx
      go_wp2_with fail
      go_step3
      show J 0 _ _
      refine hJ0 _ _ ⟨_, _, _, _, _, _, _, _, _, _, _, _, _, _, _, _, _, _, _, _, _, _, _, _, _, _, _, _, _, _, _, _, _, _, _, _, _, _, _, _, _, _, _, _, _, _, _, _, _, _, _, _, _, _, _, _, _, _, _, _, _, _, _, _, _, _, _, _, _, _, _, _, _, _, _, _, _, _, _, _, _, _, _, _, _, _, _, _, rfl, fun y hy => ?_, hr.2⟩
      have e := (hp.escaped (by omega) H92.out hy).2.1
      rw [Ej.out, HA.out] at e
      injection e with e
      exact HX.out e
  · have hll : (s.size : Int) - 1 < (j : Int) + 3 := by omega
    go_wp2_with fail
    go_step3
    show J 0 _ _
    refine hJ0 _ _ ⟨_, _, _, _, _, _, _, _, _, _, _, _, _, _, _, _, _, _, _, _, _, _, _, _, _, _, _, _, _, _, _, _, _, _, _, _, _, _, _, _, _, _, _, _, _, _, _, _, _, _, _, _, _, _, _, _, _, _, _, _, _, _, _, _, _, _, _, _, _, _, _, _, _, _, _, _, _, _, _, _, _, _, _, _, _, _, _, _, rfl, fun x hx => ?_, hr.2⟩
    have := (hp.escaped (by omega) H92.out hx).1
    omega

theorem nil_row (s : ByteArray) (w : World) : URow s w (.slice none 0 0) [] w := ⟨World.ownsRow_nil _ _ _ _, Below.refl _ _⟩

set_option maxRecDepth 100000 in
set_option maxHeartbeats 2000000 in
theorem first (s : ByteArray) (w : World) (hs : s.size ≤ 1000000) (J : Nat → Act → World → Prop) (hJ : ∀ l a w', UJ s w l a w' → J l a w') :
    unsScope.wp Try.prog (jumps J (UQ s w)) { tmps := (.string s :: undef :: .string ⟨#[]⟩ :: .int .i64 0 :: undef :: undef :: undef :: undef :: undef :: undef :: undef :: undef :: undef :: undef :: undef :: undef :: undef :: undef :: undef :: undef :: undef :: undef :: undef :: undef :: undef :: undef :: undef :: undef :: undef :: undef :: undef :: undef :: undef :: undef :: undef :: undef :: undef :: undef :: undef :: undef :: undef :: undef :: undef :: undef :: undef :: undef :: undef :: undef :: undef :: undef :: undef :: undef :: undef :: undef :: undef :: undef :: undef :: undef :: undef :: undef :: undef :: undef :: undef :: undef :: undef :: undef :: undef :: undef :: undef :: undef :: undef :: undef :: undef :: undef :: undef :: undef :: undef :: undef :: undef :: undef :: undef :: undef :: undef :: undef :: undef :: undef :: undef :: undef :: undef :: undef :: undef :: undef :: []).toArray, defers := [] } w := by
  have no : ∀ a w', UF s (fun _ _ w' => NoSpell s ∧ Below w.heap.size w w') a w' → J 0 a w' := fun a w' h => hJ 0 a w' (h.mono fun _ _ h => .inl ⟨rfl, h⟩)
  conv => arg 2; whnf
  by_cases h2 : s.size < 2
  · have hll : (s.size : Int) < 2 := by omega
    go_wp2_with fail
    go_step3
    show J 0 _ _
    refine no _ _ ⟨_, _, _, _, _, _, _, _, _, _, _, _, _, _, _, _, _, _, _, _, _, _, _, _, _, _, _, _, _, _, _, _, _, _, _, _, _, _, _, _, _, _, _, _, _, _, _, _, _, _, _, _, _, _, _, _, _, _, _, _, _, _, _, _, _, _, _, _, _, _, _, _, _, _, _, _, _, _, _, _, _, _, _, _, _, _, _, _, rfl, fun x hx => ?_, Below.refl _ _⟩
    have := hx.ends.1
    omega
  · have hll : 2 ≤ (s.size : Int) := by omega
    have hix0 := index_bt (s := s) (i := (0 : Int)) (k := 0) rfl (by omega)
    have hix1 := index_bt (s := s) (i := (s.size : Int) - 1) (k := s.size - 1) (by omega) (by omega)
    have hat := bt_at (s := s) (k := 0) (by omega)
    have hat1 := bt_at (s := s) (k := s.size - 1) (by omega)
    generalize bt s 0 = x at hix0 hat
    generalize bt s (s.size - 1) = y at hix1 hat1
    have HA := Lib.hid hat; clear hat
    have HA1 := Lib.hid hat1; clear hat1
    by_cases hx : x = 34
    · have hx' : (x != 34) = false := by simp [hx]
      have HX := Lib.hid hx; clear hx
      by_cases hy : y = 34
      · have hy' : (y != 34) = false := by simp [hy]
        have HY := Lib.hid hy; clear hy
        have hp : Hid (Pre s [] 1) := hide (Pre.start (by omega) (by rw [HA.out, HX.out]) (by rw [HA1.out, HY.out]))
        go_wp2_with fail
        go_step3
        go_step
        go_step
        exact pass1 s w hs J _ _ _ _ 1 [] _ _ _ _ _ _ _ _ _ _ _ _ _ _ _ _ _ _ _ _ _ _ _ _ _ _ _ _ _ _ _ _ _ _ _ _ _ _ _ _ _ _ _ _ _ _ _ _ _ _ _ _ _ _ _ _ _ _ _ _ _ _ _ _ _ _ _ _ _ _ _ _ _ _ _ _ _ _ _ _ _ _ _ _ hp.out (nil_row s w) no (fun a w' h => hJ 1 a w' (h.mono fun v i h => by
          obtain ⟨acc, hi, hP, hR⟩ := h
          exact .inr (.inl ⟨rfl, acc, _, hi, hP, hR⟩))) (fun a w' h => hJ 2 a w' (h.mono fun v i h => by
          obtain ⟨hi, hk, h92, hR⟩ := h
          exact .inr (.inr ⟨rfl, [], _, hi, by omega, hk, h92, hp.out, hR⟩)))
      · have hy' : (y != 34) = true := by simp [hy]
        have HY := hide hy; clear hy
        go_wp2_with fail
        go_step3
        show J 0 _ _
        refine no _ _ ⟨_, _, _, _, _, _, _, _, _, _, _, _, _, _, _, _, _, _, _, _, _, _, _, _, _, _, _, _, _, _, _, _, _, _, _, _, _, _, _, _, _, _, _, _, _, _, _, _, _, _, _, _, _, _, _, _, _, _, _, _, _, _, _, _, _, _, _, _, _, _, _, _, _, _, _, _, _, _, _, _, _, _, _, _, _, _, _, _, rfl, fun z hz => ?_, Below.refl _ _⟩
        have e := hz.ends.2.2
        rw [HA1.out] at e
        injection e with e
        exact HY.out e
    · have hx' : (x != 34) = true := by simp [hx]
      have HX := hide hx; clear hx
      go_wp2_with fail
      go_step3
      show J 0 _ _
      refine no _ _ ⟨_, _, _, _, _, _, _, _, _, _, _, _, _, _, _, _, _, _, _, _, _, _, _, _, _, _, _, _, _, _, _, _, _, _, _, _, _, _, _, _, _, _, _, _, _, _, _, _, _, _, _, _, _, _, _, _, _, _, _, _, _, _, _, _, _, _, _, _, _, _, _, _, _, _, _, _, _, _, _, _, _, _, _, _, _, _, _, _, rfl, fun z hz => ?_, Below.refl _ _⟩
      have e := hz.ends.2.1
      rw [HA.out] at e
      injection e with e
      exact HX.out e

end Go.Proofs.Ytkidefmkgcankaa
