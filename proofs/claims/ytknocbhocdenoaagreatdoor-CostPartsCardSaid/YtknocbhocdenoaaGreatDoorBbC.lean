/- Contracts: names. -/
import Derived.Test.YtknocbhocdenoaaGreatDoorBbS
namespace Go.Proofs.YtknocbhocdenoaaGreatDoor
open Go Go.RowKit

theorem hmix : Tryz.prog.follows .mixedOrders = true := cfgOk.mixed
theorem holds_mono {P : Program} {Q Q' : Lf → Prop} (h : ∀ l, Q l → Q' l) : ∀ {T : SX}, T.holds P Q → T.holds P Q'
  | .ret _ _, hT => h _ hT
  | .pan _ _, hT => h _ hT
  | .code _ _ _, hT => h _ hT
  | .call _ _ _ _ _ x, hT => ⟨hT.1, holds_mono h (T := x) hT.2⟩
  | .loop _ _ _ _ _ _ x, hT => ⟨hT.1, holds_mono h (T := x) hT.2⟩
  | .side _ x, hT => ⟨hT.1, fun hp => holds_mono h (T := x) (hT.2 hp)⟩
  | .both x y, hT => ⟨holds_mono h (T := x) hT.1, holds_mono h (T := y) hT.2⟩
  | .stuck _, hT => hT
/-- An end that is the one that is said. -/
def QE (st' : St) (e : AEnd) : Lf → Prop
  | .ret v st1 => e = .ret v ∧ st1 = st'
  | .pan v st1 => e = .panic v ∧ st1 = st'
  | .code _ _ _ => False
theorem gd {f : FuncId} {fn : Func} (hf : Tryz.prog.funcs[f]? = some fn) (hok : funcOk cfg f fn = true) (hb : fn.body.isSome = true) {C : SCfg} (hC : C.tr = trs f) {objs froz : List Nat} {args : List AV} {st st' : St} {e : AEnd} {T : SX}
    (ht : symF Tryz.prog C fn objs froz args st = T) (h : T.holds Tryz.prog (QE st' e)) : Good Tryz.prog f args st e st' := by
  refine good_sym hmix hf hok hb hC (objs := objs) (froz := froz) ?_
  rw [ht]
  refine holds_mono (fun l hl => ?_) h
  cases l with
  | ret v st1 => obtain ⟨rfl, rfl⟩ := hl; exact .refl _ _ _
  | pan v st1 => obtain ⟨rfl, rfl⟩ := hl; exact .refl _ _ _
  | code _ _ _ => exact hl.elim

theorem g221 (c : Int) (st : St) : Good Tryz.prog 221 [.val (.int .u8 c)] st (.ret (.val (.bool (smallP c)))) st := gd Tryz.func221 fok221 rfl rfl (s221 c st) (by simp [SX.holds, holds_cond, QE, smallP]; omega)
theorem g114 (c : Int) (st : St) : Good Tryz.prog 114 [.val (.int .u8 c)] st (.ret (.val (.bool (smallP c)))) st := gd Tryz.func114 fok114 rfl rfl (s114 c st) (by simp [SX.holds, holds_cond, QE, smallP]; omega)
theorem g244 (c : Int) (st : St) : Good Tryz.prog 244 [.val (.int .u8 c)] st (.ret (.val (.bool (digitP c)))) st := gd Tryz.func244 fok244 rfl rfl (s244 c st) (by simp [SX.holds, holds_cond, QE, digitP]; omega)
theorem g116 (c : Int) (st : St) : Good Tryz.prog 116 [.val (.int .u8 c)] st (.ret (.val (.bool (digitP c)))) st := gd Tryz.func116 fok116 rfl rfl (s116 c st) (by simp [SX.holds, holds_cond, QE, digitP]; omega)
theorem g223 (c : Int) (st : St) : Good Tryz.prog 223 [.val (.int .u8 c)] st (.ret (.val (.bool (innerP c)))) st := gd Tryz.func223 fok223 rfl rfl (s223 c st) (by simp +contextual [SX.holds, holds_cond, QE, innerP, g221, g244])
theorem g186 (c : Int) (st : St) : Good Tryz.prog 186 [.val (.int .u8 c)] st (.ret (.val (.bool (innerP c)))) st := gd Tryz.func186 fok186 rfl rfl (s186 c st) (by simp +contextual [SX.holds, holds_cond, QE, innerP, g114, g116])
theorem g258 (s : ByteArray) (st : St) : Good Tryz.prog 258 [.val (.string s)] st (.ret (.val (.bool false))) st := gd Tryz.func258 fok258 rfl rfl (s258 s st) (by simp [SX.holds, holds_cond, QE])
theorem g255 (s : ByteArray) (st : St) : Good Tryz.prog 255 [.val (.string s)] st (.ret (.val (.bool false))) st := gd Tryz.func255 fok255 rfl rfl (s255 s st) (by simp [SX.holds, holds_cond, QE])
theorem g254 (a b : ByteArray) (st : St) : Good Tryz.prog 254 [.val (.string a), .val (.string b)] st (.ret (.val (.bool (Op.bytesLess a.toList b.toList)))) st := gd Tryz.func254 fok254 rfl rfl (s254 a b st) (by simp [SX.holds, holds_cond, QE, g258])
theorem g243 (st : St) : Good Tryz.prog 243 [] st (.ret (.slice .ro (wordL.map fun w => .val (.string w)) 41)) st := gd Tryz.func243 fok243 rfl rfl (s243 st) (by simp [SX.holds, QE, wordL, bs])
theorem g218 (st : St) : Good Tryz.prog 218 [] st (.ret (.slice .ro (wordL.map fun w => .val (.string w)) 41)) st := gd Tryz.func218 fok218 rfl rfl (s218 st) (by simp [SX.holds, QE, wordL, bs])

/-! ### Words -/
theorem bl_irrefl : ∀ l : List UInt8, Op.bytesLess l l = false
  | [] => rfl
  | a :: l => by simp [Op.bytesLess, bl_irrefl l]
theorem bl_trans : ∀ {a b c : List UInt8}, Op.bytesLess a b = true → Op.bytesLess b c = true → Op.bytesLess a c = true
  | a, b, [], h, g => by cases b <;> simp [Op.bytesLess] at g
  | [], b, y :: c, h, g => by simp [Op.bytesLess]
  | x :: a, [], y :: c, h, g => by simp [Op.bytesLess] at h
  | x :: a, z :: b, y :: c, h, g => by
    simp only [Op.bytesLess, Bool.or_eq_true, decide_eq_true_eq, Bool.and_eq_true, beq_iff_eq] at h g ⊢
    rcases h with h | ⟨h1, h2⟩
    · rcases g with g | ⟨g1, g2⟩
      · exact .inl (UInt8.lt_trans h g)
      · subst g1; exact .inl h
    · subst h1
      rcases g with g | ⟨g1, g2⟩
      · exact .inl g
      · exact .inr ⟨g1, bl_trans h2 g2⟩
def wd (i : Nat) : ByteArray := (wordL[i]?).getD ⟨#[]⟩
theorem words_up : ∀ i j : _root_.Fin 41, i < j → Op.bytesLess (wd i.val).toList (wd j.val).toList = true := by decide +kernel
theorem wd_of {i : Nat} {a : ByteArray} (h : wordL[i]? = some a) : wd i = a := by unfold wd; rw [h]; rfl
theorem wd_get {i : Nat} (h : i < wordL.length) : wordL[i] = wd i := by unfold wd; rw [List.getElem?_eq_getElem h]; rfl
theorem wordP_iff (s : ByteArray) : wordP s = true ↔ ∃ j, j < 41 ∧ (wd j).toList = s.toList := by
  unfold wordP
  rw [List.any_eq_true]
  constructor
  · rintro ⟨x, hx, he⟩
    obtain ⟨j, hj, rfl⟩ := List.mem_iff_getElem.1 hx
    exact ⟨j, hj, by rw [← wd_get hj]; simpa using he⟩
  · rintro ⟨j, hj, he⟩
    have hj' : j < wordL.length := hj
    exact ⟨wordL[j], List.getElem_mem hj', by rw [wd_get hj']; simpa using he⟩
theorem word_at (s : ByteArray) (i : Nat) (hi : i < 41) (h1 : ∀ j, j < i → Op.bytesLess (wd j).toList s.toList = true) (h2 : Op.bytesLess (wd i).toList s.toList = false) : wordPos s = i ∧ wordP s = ((wd i).toList == s.toList) := by
  have hl : i < wordL.length := hi
  refine ⟨(List.findIdx_eq hl).2 ⟨by rw [wd_get hl, h2]; rfl, fun j hj => by rw [wd_get (by omega), h1 j hj]; rfl⟩, ?_⟩
  cases hc : ((wd i).toList == s.toList) with
  | true => exact (wordP_iff s).2 ⟨i, hi, by simpa using hc⟩
  | false =>
    refine Bool.eq_false_iff.2 fun ha => ?_
    obtain ⟨j, hj, he'⟩ := (wordP_iff s).1 ha
    rcases Nat.lt_trichotomy j i with h | h | h
    · have := h1 j h
      rw [he', bl_irrefl] at this; cases this
    · subst h
      rw [he'] at hc; simp at hc
    · have := words_up ⟨i, hi⟩ ⟨j, hj⟩ h
      simp only at this
      rw [he', h2] at this; cases this
theorem word_leaf (s : ByteArray) (i : Nat) (a b : ByteArray) (ha : wordL[i]? = some a) (hb : wordL[i + 1]? = some b) (h1 : Op.bytesLess a.toList s.toList = true) (h2 : Op.bytesLess b.toList s.toList = false) {c : Bool} (hc : (b.toList == s.toList) = c) : (wordPos s : Int) = ((i + 1 : Nat) : Int) ∧ wordP s = c := by
  have hi' : i + 1 < 41 := (List.getElem?_eq_some_iff.1 hb).1
  have ha' := wd_of ha
  have hb' := wd_of hb
  have := word_at s (i + 1) hi' (fun j hj => by
    rcases Nat.lt_or_ge j i with h | h
    · have hw := words_up ⟨j, by omega⟩ ⟨i, by omega⟩ h
      simp only at hw
      rw [ha'] at hw
      exact bl_trans hw h1
    · have : j = i := by omega
      subst this
      rw [ha']; exact h1) (by rw [hb']; exact h2)
  rw [this.1, this.2, hb', hc]
  exact ⟨rfl, rfl⟩
theorem word_first (s : ByteArray) (b : ByteArray) (hb : wordL[0]? = some b) (h2 : Op.bytesLess b.toList s.toList = false) {c : Bool} (hc : (b.toList == s.toList) = c) : (wordPos s : Int) = 0 ∧ wordP s = c := by
  have hb' := wd_of hb
  have := word_at s 0 (by decide) (fun j hj => by omega) (by rw [hb']; exact h2)
  rw [this.1, this.2, hb', hc]
  exact ⟨rfl, rfl⟩
theorem word_last (s : ByteArray) (a : ByteArray) (ha : wordL[40]? = some a) (h1 : Op.bytesLess a.toList s.toList = true) : (wordPos s : Int) = 41 ∧ wordP s = false := by
  have ha' := wd_of ha
  have hall : ∀ j, j < 41 → Op.bytesLess (wd j).toList s.toList = true := fun j hj => by
    rcases Nat.lt_or_ge j 40 with h | h
    · have hw := words_up ⟨j, by omega⟩ ⟨40, by omega⟩ h
      simp only at hw
      rw [ha'] at hw
      exact bl_trans hw h1
    · have : j = 40 := by omega
      subst this
      rw [ha']; exact h1
  have e1 : wordPos s = 41 := by
    refine List.findIdx_eq_length.2 fun x hx => ?_
    obtain ⟨j, hj, rfl⟩ := List.mem_iff_getElem.1 hx
    rw [wd_get hj, hall j hj]; rfl
  refine ⟨by rw [e1]; rfl, Bool.eq_false_iff.2 fun hc => ?_⟩
  obtain ⟨j, hj, he'⟩ := (wordP_iff s).1 hc
  have := hall j hj
  rw [he', bl_irrefl] at this; cases this
theorem tup_eq {a b : Int} {c d : Bool} {st : St} (h : a = b ∧ c = d) : QE st (.ret (.tuple [.val (.int .i64 a), .val (.bool c)])) (.ret (.tuple [.val (.int .i64 b), .val (.bool d)]) st) := by
  obtain ⟨rfl, rfl⟩ := h; exact ⟨rfl, rfl⟩
theorem g242 (w : Own) (s : ByteArray) (st : St) : Good Tryz.prog 242 [.slice w (wordL.map fun w => .val (.string w)) 41, .val (.string s)] st (.ret (.tuple [.val (.int .i64 (wordPos s)), .val (.bool (wordP s))])) st := by
  refine gd Tryz.func242 fok242 rfl rfl (s242 w s st) ?_
  simp only [SX.holds, holds_cond, g254, g255, true_and]
  exact ⟨fun h20 =>
    ⟨fun h31 =>
      ⟨fun h36 =>
        ⟨fun h39 =>
          ⟨fun h40 =>
            tup_eq (word_last s (bs [119, 104, 101, 110]) rfl h40),
            fun h40 =>
            ⟨fun e => tup_eq (word_leaf s 39 (bs [118, 111, 108, 117, 109, 101]) (bs [119, 104, 101, 110]) rfl rfl h39 h40 e), fun e => tup_eq (word_leaf s 39 (bs [118, 111, 108, 117, 109, 101]) (bs [119, 104, 101, 110]) rfl rfl h39 h40 e)⟩⟩,
          fun h39 =>
          ⟨fun h38 =>
            ⟨fun e => tup_eq (word_leaf s 38 (bs [116, 114, 117, 101]) (bs [118, 111, 108, 117, 109, 101]) rfl rfl h38 h39 e), fun e => tup_eq (word_leaf s 38 (bs [116, 114, 117, 101]) (bs [118, 111, 108, 117, 109, 101]) rfl rfl h38 h39 e)⟩,
            fun h38 =>
            ⟨fun h37 =>
              ⟨fun e => tup_eq (word_leaf s 37 (bs [116, 111]) (bs [116, 114, 117, 101]) rfl rfl h37 h38 e), fun e => tup_eq (word_leaf s 37 (bs [116, 111]) (bs [116, 114, 117, 101]) rfl rfl h37 h38 e)⟩,
              fun h37 =>
              ⟨fun e => tup_eq (word_leaf s 36 (bs [116, 105, 109, 101]) (bs [116, 111]) rfl rfl h36 h37 e), fun e => tup_eq (word_leaf s 36 (bs [116, 105, 109, 101]) (bs [116, 111]) rfl rfl h36 h37 e)⟩⟩⟩⟩,
        fun h36 =>
        ⟨fun h34 =>
          ⟨fun h35 =>
            ⟨fun e => tup_eq (word_leaf s 35 (bs [115, 117, 98, 109, 105, 116]) (bs [116, 105, 109, 101]) rfl rfl h35 h36 e), fun e => tup_eq (word_leaf s 35 (bs [115, 117, 98, 109, 105, 116]) (bs [116, 105, 109, 101]) rfl rfl h35 h36 e)⟩,
            fun h35 =>
            ⟨fun e => tup_eq (word_leaf s 34 (bs [115, 116, 114, 97, 116, 101, 103, 121]) (bs [115, 117, 98, 109, 105, 116]) rfl rfl h34 h35 e), fun e => tup_eq (word_leaf s 34 (bs [115, 116, 114, 97, 116, 101, 103, 121]) (bs [115, 117, 98, 109, 105, 116]) rfl rfl h34 h35 e)⟩⟩,
          fun h34 =>
          ⟨fun h33 =>
            ⟨fun e => tup_eq (word_leaf s 33 (bs [115, 116, 97, 116, 101]) (bs [115, 116, 114, 97, 116, 101, 103, 121]) rfl rfl h33 h34 e), fun e => tup_eq (word_leaf s 33 (bs [115, 116, 97, 116, 101]) (bs [115, 116, 114, 97, 116, 101, 103, 121]) rfl rfl h33 h34 e)⟩,
            fun h33 =>
            ⟨fun h32 =>
              ⟨fun e => tup_eq (word_leaf s 32 (bs [115, 108, 111, 116]) (bs [115, 116, 97, 116, 101]) rfl rfl h32 h33 e), fun e => tup_eq (word_leaf s 32 (bs [115, 108, 111, 116]) (bs [115, 116, 97, 116, 101]) rfl rfl h32 h33 e)⟩,
              fun h32 =>
              ⟨fun e => tup_eq (word_leaf s 31 (bs [115, 105, 100, 101]) (bs [115, 108, 111, 116]) rfl rfl h31 h32 e), fun e => tup_eq (word_leaf s 31 (bs [115, 105, 100, 101]) (bs [115, 108, 111, 116]) rfl rfl h31 h32 e)⟩⟩⟩⟩⟩,
      fun h31 =>
      ⟨fun h26 =>
        ⟨fun h29 =>
          ⟨fun h30 =>
            ⟨fun e => tup_eq (word_leaf s 30 (bs [115, 101, 116]) (bs [115, 105, 100, 101]) rfl rfl h30 h31 e), fun e => tup_eq (word_leaf s 30 (bs [115, 101, 116]) (bs [115, 105, 100, 101]) rfl rfl h30 h31 e)⟩,
            fun h30 =>
            ⟨fun e => tup_eq (word_leaf s 29 (bs [115, 101, 108, 108]) (bs [115, 101, 116]) rfl rfl h29 h30 e), fun e => tup_eq (word_leaf s 29 (bs [115, 101, 108, 108]) (bs [115, 101, 116]) rfl rfl h29 h30 e)⟩⟩,
          fun h29 =>
          ⟨fun h28 =>
            ⟨fun e => tup_eq (word_leaf s 28 (bs [114, 101, 103]) (bs [115, 101, 108, 108]) rfl rfl h28 h29 e), fun e => tup_eq (word_leaf s 28 (bs [114, 101, 103]) (bs [115, 101, 108, 108]) rfl rfl h28 h29 e)⟩,
            fun h28 =>
            ⟨fun h27 =>
              ⟨fun e => tup_eq (word_leaf s 27 (bs [113, 116, 121]) (bs [114, 101, 103]) rfl rfl h27 h28 e), fun e => tup_eq (word_leaf s 27 (bs [113, 116, 121]) (bs [114, 101, 103]) rfl rfl h27 h28 e)⟩,
              fun h27 =>
              ⟨fun e => tup_eq (word_leaf s 26 (bs [112, 114, 105, 99, 101]) (bs [113, 116, 121]) rfl rfl h26 h27 e), fun e => tup_eq (word_leaf s 26 (bs [112, 114, 105, 99, 101]) (bs [113, 116, 121]) rfl rfl h26 h27 e)⟩⟩⟩⟩,
        fun h26 =>
        ⟨fun h23 =>
          ⟨fun h25 =>
            ⟨fun e => tup_eq (word_leaf s 25 (bs [112, 111, 115, 116]) (bs [112, 114, 105, 99, 101]) rfl rfl h25 h26 e), fun e => tup_eq (word_leaf s 25 (bs [112, 111, 115, 116]) (bs [112, 114, 105, 99, 101]) rfl rfl h25 h26 e)⟩,
            fun h25 =>
            ⟨fun h24 =>
              ⟨fun e => tup_eq (word_leaf s 24 (bs [111, 112, 101, 110]) (bs [112, 111, 115, 116]) rfl rfl h24 h25 e), fun e => tup_eq (word_leaf s 24 (bs [111, 112, 101, 110]) (bs [112, 111, 115, 116]) rfl rfl h24 h25 e)⟩,
              fun h24 =>
              ⟨fun e => tup_eq (word_leaf s 23 (bs [111, 102]) (bs [111, 112, 101, 110]) rfl rfl h23 h24 e), fun e => tup_eq (word_leaf s 23 (bs [111, 102]) (bs [111, 112, 101, 110]) rfl rfl h23 h24 e)⟩⟩⟩,
          fun h23 =>
          ⟨fun h22 =>
            ⟨fun e => tup_eq (word_leaf s 22 (bs [110, 111, 119]) (bs [111, 102]) rfl rfl h22 h23 e), fun e => tup_eq (word_leaf s 22 (bs [110, 111, 119]) (bs [111, 102]) rfl rfl h22 h23 e)⟩,
            fun h22 =>
            ⟨fun h21 =>
              ⟨fun e => tup_eq (word_leaf s 21 (bs [109, 105, 110]) (bs [110, 111, 119]) rfl rfl h21 h22 e), fun e => tup_eq (word_leaf s 21 (bs [109, 105, 110]) (bs [110, 111, 119]) rfl rfl h21 h22 e)⟩,
              fun h21 =>
              ⟨fun e => tup_eq (word_leaf s 20 (bs [109, 97, 120]) (bs [109, 105, 110]) rfl rfl h20 h21 e), fun e => tup_eq (word_leaf s 20 (bs [109, 97, 120]) (bs [109, 105, 110]) rfl rfl h20 h21 e)⟩⟩⟩⟩⟩⟩,
    fun h20 =>
    ⟨fun h10 =>
      ⟨fun h15 =>
        ⟨fun h18 =>
          ⟨fun h19 =>
            ⟨fun e => tup_eq (word_leaf s 19 (bs [109, 97, 114, 107, 101, 116]) (bs [109, 97, 120]) rfl rfl h19 h20 e), fun e => tup_eq (word_leaf s 19 (bs [109, 97, 114, 107, 101, 116]) (bs [109, 97, 120]) rfl rfl h19 h20 e)⟩,
            fun h19 =>
            ⟨fun e => tup_eq (word_leaf s 18 (bs [108, 105, 109, 105, 116]) (bs [109, 97, 114, 107, 101, 116]) rfl rfl h18 h19 e), fun e => tup_eq (word_leaf s 18 (bs [108, 105, 109, 105, 116]) (bs [109, 97, 114, 107, 101, 116]) rfl rfl h18 h19 e)⟩⟩,
          fun h18 =>
          ⟨fun h17 =>
            ⟨fun e => tup_eq (word_leaf s 17 (bs [108, 97, 115, 116]) (bs [108, 105, 109, 105, 116]) rfl rfl h17 h18 e), fun e => tup_eq (word_leaf s 17 (bs [108, 97, 115, 116]) (bs [108, 105, 109, 105, 116]) rfl rfl h17 h18 e)⟩,
            fun h17 =>
            ⟨fun h16 =>
              ⟨fun e => tup_eq (word_leaf s 16 (bs [105, 111, 99]) (bs [108, 97, 115, 116]) rfl rfl h16 h17 e), fun e => tup_eq (word_leaf s 16 (bs [105, 111, 99]) (bs [108, 97, 115, 116]) rfl rfl h16 h17 e)⟩,
              fun h16 =>
              ⟨fun e => tup_eq (word_leaf s 15 (bs [105, 110, 116]) (bs [105, 111, 99]) rfl rfl h15 h16 e), fun e => tup_eq (word_leaf s 15 (bs [105, 110, 116]) (bs [105, 111, 99]) rfl rfl h15 h16 e)⟩⟩⟩⟩,
        fun h15 =>
        ⟨fun h13 =>
          ⟨fun h14 =>
            ⟨fun e => tup_eq (word_leaf s 14 (bs [104, 97, 115]) (bs [105, 110, 116]) rfl rfl h14 h15 e), fun e => tup_eq (word_leaf s 14 (bs [104, 97, 115]) (bs [105, 110, 116]) rfl rfl h14 h15 e)⟩,
            fun h14 =>
            ⟨fun e => tup_eq (word_leaf s 13 (bs [104, 97, 108, 116]) (bs [104, 97, 115]) rfl rfl h13 h14 e), fun e => tup_eq (word_leaf s 13 (bs [104, 97, 108, 116]) (bs [104, 97, 115]) rfl rfl h13 h14 e)⟩⟩,
          fun h13 =>
          ⟨fun h12 =>
            ⟨fun e => tup_eq (word_leaf s 12 (bs [103, 111, 116, 111]) (bs [104, 97, 108, 116]) rfl rfl h12 h13 e), fun e => tup_eq (word_leaf s 12 (bs [103, 111, 116, 111]) (bs [104, 97, 108, 116]) rfl rfl h12 h13 e)⟩,
            fun h12 =>
            ⟨fun h11 =>
              ⟨fun e => tup_eq (word_leaf s 11 (bs [102, 111, 107]) (bs [103, 111, 116, 111]) rfl rfl h11 h12 e), fun e => tup_eq (word_leaf s 11 (bs [102, 111, 107]) (bs [103, 111, 116, 111]) rfl rfl h11 h12 e)⟩,
              fun h11 =>
              ⟨fun e => tup_eq (word_leaf s 10 (bs [102, 97, 108, 115, 101]) (bs [102, 111, 107]) rfl rfl h10 h11 e), fun e => tup_eq (word_leaf s 10 (bs [102, 97, 108, 115, 101]) (bs [102, 111, 107]) rfl rfl h10 h11 e)⟩⟩⟩⟩⟩,
      fun h10 =>
      ⟨fun h5 =>
        ⟨fun h8 =>
          ⟨fun h9 =>
            ⟨fun e => tup_eq (word_leaf s 9 (bs [100, 111]) (bs [102, 97, 108, 115, 101]) rfl rfl h9 h10 e), fun e => tup_eq (word_leaf s 9 (bs [100, 111]) (bs [102, 97, 108, 115, 101]) rfl rfl h9 h10 e)⟩,
            fun h9 =>
            ⟨fun e => tup_eq (word_leaf s 8 (bs [99, 97, 110, 99, 101, 108]) (bs [100, 111]) rfl rfl h8 h9 e), fun e => tup_eq (word_leaf s 8 (bs [99, 97, 110, 99, 101, 108]) (bs [100, 111]) rfl rfl h8 h9 e)⟩⟩,
          fun h8 =>
          ⟨fun h7 =>
            ⟨fun e => tup_eq (word_leaf s 7 (bs [98, 117, 121]) (bs [99, 97, 110, 99, 101, 108]) rfl rfl h7 h8 e), fun e => tup_eq (word_leaf s 7 (bs [98, 117, 121]) (bs [99, 97, 110, 99, 101, 108]) rfl rfl h7 h8 e)⟩,
            fun h7 =>
            ⟨fun h6 =>
              ⟨fun e => tup_eq (word_leaf s 6 (bs [98, 111, 111, 108]) (bs [98, 117, 121]) rfl rfl h6 h7 e), fun e => tup_eq (word_leaf s 6 (bs [98, 111, 111, 108]) (bs [98, 117, 121]) rfl rfl h6 h7 e)⟩,
              fun h6 =>
              ⟨fun e => tup_eq (word_leaf s 5 (bs [98, 105, 100]) (bs [98, 111, 111, 108]) rfl rfl h5 h6 e), fun e => tup_eq (word_leaf s 5 (bs [98, 105, 100]) (bs [98, 111, 111, 108]) rfl rfl h5 h6 e)⟩⟩⟩⟩,
        fun h5 =>
        ⟨fun h2 =>
          ⟨fun h4 =>
            ⟨fun e => tup_eq (word_leaf s 4 (bs [97, 116]) (bs [98, 105, 100]) rfl rfl h4 h5 e), fun e => tup_eq (word_leaf s 4 (bs [97, 116]) (bs [98, 105, 100]) rfl rfl h4 h5 e)⟩,
            fun h4 =>
            ⟨fun h3 =>
              ⟨fun e => tup_eq (word_leaf s 3 (bs [97, 115, 107]) (bs [97, 116]) rfl rfl h3 h4 e), fun e => tup_eq (word_leaf s 3 (bs [97, 115, 107]) (bs [97, 116]) rfl rfl h3 h4 e)⟩,
              fun h3 =>
              ⟨fun e => tup_eq (word_leaf s 2 (bs [97, 115]) (bs [97, 115, 107]) rfl rfl h2 h3 e), fun e => tup_eq (word_leaf s 2 (bs [97, 115]) (bs [97, 115, 107]) rfl rfl h2 h3 e)⟩⟩⟩,
          fun h2 =>
          ⟨fun h1 =>
            ⟨fun e => tup_eq (word_leaf s 1 (bs [97, 109, 101, 110, 100]) (bs [97, 115]) rfl rfl h1 h2 e), fun e => tup_eq (word_leaf s 1 (bs [97, 109, 101, 110, 100]) (bs [97, 115]) rfl rfl h1 h2 e)⟩,
            fun h1 =>
            ⟨fun h0 =>
              ⟨fun e => tup_eq (word_leaf s 0 (bs [97, 98, 115]) (bs [97, 109, 101, 110, 100]) rfl rfl h0 h1 e), fun e => tup_eq (word_leaf s 0 (bs [97, 98, 115]) (bs [97, 109, 101, 110, 100]) rfl rfl h0 h1 e)⟩,
              fun h0 =>
              ⟨fun e => tup_eq (word_first s (bs [97, 98, 115]) rfl h0 e), fun e => tup_eq (word_first s (bs [97, 98, 115]) rfl h0 e)⟩⟩⟩⟩⟩⟩⟩
theorem g222 (s : ByteArray) (st : St) : Good Tryz.prog 222 [.val (.string s)] st (.ret (.val (.bool (wordP s)))) st := by
  refine gd Tryz.func222 fok222 rfl rfl (s222 s st) ?_
  exact ⟨g243 st, g242 .ro s st, rfl, rfl⟩
end Go.Proofs.YtknocbhocdenoaaGreatDoor
