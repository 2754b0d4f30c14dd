/- The texts IndexByte, AuthSpec, Same in one. -/
import Derived.Test.YtcgenmogedndjaaDoorG06
import Derived.Test.YtcgenmogedndjaaDoorG16
import Derived.Lib.Bytealg
import Derived.Lib.IndexBytes
namespace Go.Proofs.YtcgenmogedndjaaDoor
open Go.RowKit Go.Proofs.YtcgenmogedndjaaDoorW.PrintWords
/-- Where a byte stands first; the length, if it does not. -/
def posOf (c : Int) : List Int → Nat
  | [] => 0
  | x :: t => if x = c then 0 else posOf c t + 1
theorem posOf_dot : ∀ (l : List Int), posOf 46 l = dotAt l
  | [] => rfl
  | x :: t => by rw [posOf, dotAt, posOf_dot t]
theorem indexByte_pos (c : Nat) (hc : c < 256) : ∀ (l : List UInt8), Lib.indexByte l (c : Int).toNat.toUInt8 = if posOf c (l.map fun b => (b.toNat : Int)) < l.length then ((posOf c (l.map fun b => (b.toNat : Int)) : Nat) : Int) else -1
  | [] => rfl
  | b :: t => by
    have ih := indexByte_pos c hc t
    have hcc : ((c : Int).toNat.toUInt8).toNat = c := by
      rw [Int.toNat_natCast]
      exact UInt8.toNat_ofNat_of_lt' hc
    rw [Lib.indexByte, List.map_cons, posOf]
    by_cases hb : (b.toNat : Int) = c
    · have e : (b == (c : Int).toNat.toUInt8) = true := by
        rw [beq_iff_eq]
        apply UInt8.toNat_inj.1
        rw [hcc]
        omega
      rw [e, if_pos rfl, if_pos hb, if_pos (by simp)]
      rfl
    · have e : (b == (c : Int).toNat.toUInt8) = false := by
        rw [beq_eq_false_iff_ne]
        intro h
        apply hb
        rw [h, hcc]
      rw [e, if_neg (by simp), if_neg hb, ih]
      by_cases h2 : posOf c (t.map fun b => (b.toNat : Int)) < t.length
      · rw [if_pos h2, if_neg (by rw [beq_iff_eq]; omega), if_pos (by simp only [List.length_cons]; omega)]
        omega
      · rw [if_neg h2, if_pos (by decide), if_neg (by simp only [List.length_cons]; omega)]
theorem indexByte_str (c : Nat) (hc : c < 256) (s : ByteArray) : Lib.indexByte s.data.toList (c : Int).toNat.toUInt8 = if posOf c (bytesOf s) < s.size then ((posOf c (bytesOf s) : Nat) : Int) else -1 := by
  have h := indexByte_pos c hc s.data.toList
  rw [data_length] at h
  exact h
theorem bytesOf_extract (s : ByteArray) (a b : Nat) : bytesOf (s.extract a b) = ((bytesOf s).drop a).take (b - a) := by
  unfold bytesOf
  rw [Lib.extract_data, List.map_take, List.map_drop]
set_option maxHeartbeats 400000 in
theorem litIndexByte_calls (s : ByteArray) (c : Nat) (hc : c < 256) (w : World) :
    Calls Tryd.prog 60 #[.string s, .int .u8 c] w fun e w' => e = .returned (.int .i64 (if posOf c (bytesOf s) < s.size then ((posOf c (bytesOf s) : Nat) : Int) else -1)) ∧ w' = w := by
  rw [← indexByte_str c hc s]
  go_enter Tryd.func60, Tryd.ntmps60
  go_wp2
  rw [run_callFunc_extern Tryd.func75 (by kernel_rfl) (by kernel_rfl) (by kernel_rfl) (e := Extern.BytealgIndexByte.indexByte) (by kernel_rfl), Lib.run_indexByteString]
  simp only [Result.andThen]
  rw [Oper.upon_value]
  go_wp2
  go_ret
  exact ⟨rfl, rfl⟩
theorem dot_toList (s : ByteArray) (h : s ≠ ⟨#[46]⟩) : ([46] == s.toList) = false := by
  rw [beq_eq_false_iff_ne]
  intro e
  apply h
  apply toList_inj
  rw [← e, ByteArray.toList_eq]
set_option maxRecDepth 100000 in
/-- stringslite.Index, where what is looked for is a point. -/
theorem litIndex_dot (s : ByteArray) (w : World) :
    Calls Tryd.prog 63 #[.string s, .string ⟨#[46]⟩] w fun e w' => e = .returned (.int .i64 (if dotAt (bytesOf s) < s.size then ((dotAt (bytesOf s) : Nat) : Int) else -1)) ∧ w' = w := by
  by_cases h : s = ⟨#[46]⟩
  · subst h
    have e1 : (if dotAt (bytesOf ⟨#[46]⟩) < (⟨#[46]⟩ : ByteArray).size then ((dotAt (bytesOf ⟨#[46]⟩) : Nat) : Int) else -1) = 0 := by decide
    rw [e1]
    clear e1
    have e2 : ([46] == (⟨#[46]⟩ : ByteArray).toList) = true := by rw [ByteArray.toList_eq]; rfl
    go_enter Tryd.func63, Tryd.ntmps63
    go_wp2
    go_ret
    exact ⟨rfl, rfl⟩
  · have hne := dot_toList s h
    obtain ⟨r, hr⟩ : ∃ r, r = (if dotAt (bytesOf s) < s.size then ((dotAt (bytesOf s) : Nat) : Int) else -1) := ⟨_, rfl⟩
    rw [← hr]
    have HR := Lib.hid (show r = (if posOf ((46 : Nat) : Int) (bytesOf s) < s.size then ((posOf ((46 : Nat) : Int) (bytesOf s) : Nat) : Int) else -1) by rw [hr, ← posOf_dot]; rfl)
    clear hr h
    go_enter Tryd.func63, Tryd.ntmps63
    go_wp2_with fail
    refine (litIndexByte_calls s 46 (by decide) _).mono ?_
    rintro e w1 ⟨rfl, rfl⟩
    rw [← HR.out]
    go_wp2
    go_ret
    exact ⟨rfl, rfl⟩
/-- Does a text hold a point? -/
def hasDot (s : ByteArray) : Bool := decide (dotAt (bytesOf s) < s.size)
def frontOf (s : ByteArray) : ByteArray := if hasDot s = true then s.extract 0 (dotAt (bytesOf s)) else s
def backOf (s : ByteArray) : ByteArray := if hasDot s = true then s.extract (dotAt (bytesOf s) + 1) s.size else ByteArray.empty
set_option maxHeartbeats 800000 in
theorem litCut_calls (s : ByteArray) (w : World) (hs : s.size ≤ 1099511627776) :
    Calls Tryd.prog 47 #[.string s, .string ⟨#[46]⟩] w fun e w' => e = .returned (.tuple #[.string (frontOf s), .string (backOf s), .bool (hasDot s)]) ∧ Drawn0 w w' := by
  obtain ⟨d, hd⟩ : ∃ d, d = dotAt (bytesOf s) := ⟨_, rfl⟩
  by_cases h : d < s.size
  · have h1 : hasDot s = true := decide_eq_true (by rw [← hd]; exact h)
    have h2 : frontOf s = s.extract 0 d := by unfold frontOf; rw [if_pos h1, hd]
    have h3 : backOf s = s.extract (d + 1) s.size := by unfold backOf; rw [if_pos h1, hd]
    rw [h1, h2, h3]
    have HD := Lib.hid (show (if dotAt (bytesOf s) < s.size then ((dotAt (bytesOf s) : Nat) : Int) else -1) = d by rw [if_pos (by rw [← hd]; exact h), hd])
    clear h1 h2 h3 hd
    have i0 : (0 : Int) ≤ d := by omega
    have i1 : (d : Int) ≤ s.size := by omega
    have i2 : (d : Int) + 1 ≤ s.size := by omega
    have w1' : IntKind.i64.wrap ((d : Int) + 1) = d + 1 := wrap_id (by omega) (by omega)
    have t1 : ((d : Int) + 1).toNat = d + 1 := by omega
    have i3 : (0 : Int) ≤ (d : Int) + 1 := by omega
    go_enter Tryd.func47, Tryd.ntmps47
    go_wp2_with fail
    refine (litIndex_dot s _).mono ?_
    rintro e w1 ⟨rfl, rfl⟩
    rw [HD.out]
    go_wp2_with fail
    go_quiet (fail)
    go_wp2
    go_ret3
    exact ⟨rfl, (Drawn0.refl _).step _⟩
  · have h1 : hasDot s = false := decide_eq_false (by rw [← hd]; exact h)
    have h2 : frontOf s = s := by unfold frontOf; rw [h1]; rfl
    have h3 : backOf s = ByteArray.empty := by unfold backOf; rw [h1]; rfl
    rw [h1, h2, h3]
    have HD := Lib.hid (show (if dotAt (bytesOf s) < s.size then ((dotAt (bytesOf s) : Nat) : Int) else -1) = -1 by rw [if_neg (by rw [← hd]; exact h)])
    clear h1 h2 h3 hd h
    go_enter Tryd.func47, Tryd.ntmps47
    go_wp2_with fail
    refine (litIndex_dot s _).mono ?_
    rintro e w1 ⟨rfl, rfl⟩
    rw [HD.out]
    go_wp2
    go_ret3
    exact ⟨rfl, Drawn0.refl _⟩
set_option maxHeartbeats 400000 in
theorem Cut_calls (s : ByteArray) (w : World) (hs : s.size ≤ 1099511627776) :
    Calls Tryd.prog 29 #[.string s, .string ⟨#[46]⟩] w fun e w' => e = .returned (.tuple #[.string (frontOf s), .string (backOf s), .bool (hasDot s)]) ∧ Drawn0 w w' := by
  go_enter Tryd.func29, Tryd.ntmps29
  go_wp2_with fail
  refine (litCut_calls s _ hs).mono ?_
  rintro e w1 ⟨rfl, hd⟩
  have HD := Lib.hid hd
  clear hd
  go_wp2
  go_ret3
  exact ⟨rfl, HD.out⟩
end Go.Proofs.YtcgenmogedndjaaDoor
namespace Go.Proofs.YtcgenmogedndjaaDoor
open Go.RowKit Go.Proofs.YtcgenmogedndjaaDoorW.PrintWords
theorem tok_bytes (k : Sec) (c : Clm) : bytesOf (tokS k c) = sp3 (payL k.id c) ++ 46 :: sp3 (mac k.key (payL k.id c)) := by
  unfold tokS
  rw [bytesOf_app, bytesOf_app, bytes_strOf (sp3_Bytes _ (payL_Bytes _ _)), bytes_strOf (sp3_Bytes _ (mac_Bytes _ _)), List.append_assoc]
  rfl
/-- What stands ahead of a text's first point, in letters; what stands behind it. -/
def frontL (s : ByteArray) : Option (List Int) := unRun (bytesOf (frontOf s)) 0 0 []
def backL (s : ByteArray) : Option (List Int) := unRun (bytesOf (backOf s)) 0 0 []
theorem hasDot_lt {s : ByteArray} (h : hasDot s = true) : dotAt (bytesOf s) < s.size := of_decide_eq_true h
theorem front_bytes {s : ByteArray} (h : hasDot s = true) : bytesOf (frontOf s) = (bytesOf s).take (dotAt (bytesOf s)) := by
  unfold frontOf
  rw [if_pos h, bytesOf_extract, List.drop_zero, Nat.sub_zero]
theorem back_bytes {s : ByteArray} (h : hasDot s = true) : bytesOf (backOf s) = (bytesOf s).drop (dotAt (bytesOf s) + 1) := by
  unfold backOf
  rw [if_pos h, bytesOf_extract, List.take_of_length_le (by rw [List.length_drop, bytesOf_length]; exact Nat.le_refl _)]
theorem tok_parts (k : Sec) (c : Clm) : hasDot (tokS k c) = true ∧ frontL (tokS k c) = some (payL k.id c) ∧ backL (tokS k c) = some (mac k.key (payL k.id c)) := by
  have hb := tok_bytes k c
  have hd : dotAt (bytesOf (tokS k c)) = (sp3 (payL k.id c)).length := by rw [hb, dotAt_app _ _ (sp3_no46 _ (payL_Bytes _ _))]
  have h : hasDot (tokS k c) = true := decide_eq_true (by
    rw [hd, ← bytesOf_length, hb]
    simp)
  refine ⟨h, ?_, ?_⟩
  · unfold frontL
    rw [front_bytes h, hd, hb, List.take_left, unRun_spelt _ (payL_Bytes _ _)]
  · unfold backL
    have e : sp3 (payL k.id c) ++ 46 :: sp3 (mac k.key (payL k.id c)) = (sp3 (payL k.id c) ++ [46]) ++ sp3 (mac k.key (payL k.id c)) := by simp
    rw [back_bytes h, hd, hb, e, show (sp3 (payL k.id c)).length + 1 = (sp3 (payL k.id c) ++ [46]).length by simp, List.drop_left, unRun_spelt _ (mac_Bytes _ _)]
theorem tok_of {s : ByteArray} {b m : List Int} (h : hasDot s = true) (hf : frontL s = some b) (hk : backL s = some m) (k : Sec) (c : Clm) (hp : b = payL k.id c) (hm : m = mac k.key b) : tokS k c = s := by
  apply bytesOf_inj
  have h1 := spelt_unRun _ _ (Bytes_bytesOf _) hf
  have h2 := spelt_unRun _ _ (Bytes_bytesOf _) hk
  rw [tok_bytes, ← hp, ← hm, h1.1, h2.1, front_bytes h, back_bytes h]
  exact (drop_dot _ (by rw [bytesOf_length]; exact hasDot_lt h)).symm
theorem tok_inj {k k' : Sec} {c c' : Clm} (h : tokS k c = tokS k' c') (hk : 0 ≤ k.id ∧ k.id ≤ 1099511627776) (hk' : 0 ≤ k'.id ∧ k'.id ≤ 1099511627776) (hc : ClmOk c) (hc' : ClmOk c') : k.id = k'.id ∧ c = c' := by
  have h1 := (tok_parts k c).2.1
  rw [h, (tok_parts k' c').2.1] at h1
  have h2 : payL k.id c = payL k'.id c' := (Option.some.inj h1).symm
  obtain ⟨_, a1, a2⟩ := parse_pay k.id c hk hc
  obtain ⟨_, b1, b2⟩ := parse_pay k'.id c' hk' hc'
  rw [h2] at a1 a2
  exact ⟨a1.symm.trans b1, a2.symm.trans b2⟩
/-! ### IDs rise -/
theorem rise_ids : ∀ (L : List Sec) (last : Int), rise last L = true → ∀ i j, i < j → j < L.length → (L.getD i Sec.none).id < (L.getD j Sec.none).id
  | [], _, _, i, j, _, hj => by simp at hj
  | a :: t, last, h, i, j, hij, hj => by
    rw [rise, Bool.and_eq_true, decide_eq_true_eq] at h
    obtain ⟨j', rfl⟩ : ∃ j', j = j' + 1 := ⟨j - 1, by omega⟩
    simp only [List.length_cons] at hj
    rw [List.getD_cons_succ]
    cases i with
    | zero =>
      rw [List.getD_cons_zero]
      have := rise_all t a.id h.2 (t.getD j' Sec.none) (by rw [List.getD_eq_getElem?_getD, List.getElem?_eq_getElem (by omega)]; exact List.getElem_mem _)
      exact this.1
    | succ i' =>
      rw [List.getD_cons_succ]
      exact rise_ids t a.id h.2 i' j' (by omega) (by omega)
theorem checkB_ids {L : List Sec} (h : checkB L = true) (i j : Nat) (hi : i < L.length) (hj : j < L.length) (he : (L.getD i Sec.none).id = (L.getD j Sec.none).id) : i = j := by
  have h2 := h
  rw [checkB_eq (checkB_len h)] at h2
  rcases Nat.lt_trichotomy i j with hlt | heq | hgt
  · have := rise_ids L _ h2 i j hlt hj; omega
  · exact heq
  · have := rise_ids L _ h2 j i hgt hi; omega
theorem mem_getD {L : List Sec} {k : Sec} (h : k ∈ L) : ∃ i, i < L.length ∧ L.getD i Sec.none = k := by
  obtain ⟨i, hi, rfl⟩ := List.getElem_of_mem h
  exact ⟨i, hi, by rw [List.getD_eq_getElem?_getD, List.getElem?_eq_getElem hi]; rfl⟩
theorem getD_mem {L : List Sec} {i : Nat} (h : i < L.length) : L.getD i Sec.none ∈ L := by
  rw [List.getD_eq_getElem?_getD, List.getElem?_eq_getElem h]
  exact List.getElem_mem _
theorem checkB_same {L : List Sec} (h : checkB L = true) {k k' : Sec} (hk : k ∈ L) (hk' : k' ∈ L) (he : k.id = k'.id) : k = k' := by
  obtain ⟨i, hi, rfl⟩ := mem_getD hk
  obtain ⟨j, hj, rfl⟩ := mem_getD hk'
  rw [checkB_ids h i j hi hj he]
/-- What a text says: why it says nothing, or its claim. -/
def RdSpec (L : List Sec) (now : Int) (s : ByteArray) (x : Clm) (f : Int) : Prop :=
  (checkB L = false ∧ x = Clm.none ∧ f = 102) ∨
  (checkB L = true ∧ (∀ k ∈ L, ∀ c, ClmOk c → tokS k c ≠ s) ∧ x = Clm.none ∧ f = 100) ∨
  (checkB L = true ∧ ∃ k ∈ L, ∃ c, ClmOk c ∧ tokS k c = s ∧ ((c.upto ≤ now ∧ x = Clm.none ∧ f = 101) ∨ (now < c.upto ∧ x = c ∧ f = 0)))
theorem RdSpec.check {L : List Sec} {now : Int} {s : ByteArray} (h : checkB L = false) : RdSpec L now s Clm.none 102 := .inl ⟨h, rfl, rfl⟩
theorem RdSpec.no {L : List Sec} {now : Int} {s : ByteArray} (h : checkB L = true) (hn : ∀ k ∈ L, ∀ c, ClmOk c → tokS k c ≠ s) : RdSpec L now s Clm.none 100 := .inr (.inl ⟨h, hn, rfl, rfl⟩)
theorem RdSpec.over {L : List Sec} {now : Int} {s : ByteArray} (h : checkB L = true) {k : Sec} (hk : k ∈ L) {c : Clm} (hc : ClmOk c) (ht : tokS k c = s) (hn : c.upto ≤ now) : RdSpec L now s Clm.none 101 := .inr (.inr ⟨h, k, hk, c, hc, ht, .inl ⟨hn, rfl, rfl⟩⟩)
theorem RdSpec.yes {L : List Sec} {now : Int} {s : ByteArray} (h : checkB L = true) {k : Sec} (hk : k ∈ L) {c : Clm} (hc : ClmOk c) (ht : tokS k c = s) (hn : now < c.upto) : RdSpec L now s c 0 := .inr (.inr ⟨h, k, hk, c, hc, ht, .inr ⟨hn, rfl, rfl⟩⟩)
theorem RdSpec.unique {L : List Sec} {now : Int} {s : ByteArray} {x y : Clm} {f g : Int} (h : RdSpec L now s x f) (k : RdSpec L now s y g) : x = y ∧ f = g := by
  rcases h with ⟨h1, rfl, rfl⟩ | ⟨h1, h2, rfl, rfl⟩ | ⟨h1, a, ha, c, hc, hs, h3⟩ <;> rcases k with ⟨k1, rfl, rfl⟩ | ⟨k1, k2, rfl, rfl⟩ | ⟨k1, b, hb, d, hd, ht, k3⟩
  · exact ⟨rfl, rfl⟩
  · rw [h1] at k1; cases k1
  · rw [h1] at k1; cases k1
  · rw [h1] at k1; cases k1
  · exact ⟨rfl, rfl⟩
  · exact absurd ht (h2 b hb d hd)
  · rw [h1] at k1; cases k1
  · exact absurd hs (k2 a ha c hc)
  · have ra := checkB_all h1 a ha
    have rb := checkB_all h1 b hb
    obtain ⟨_, rfl⟩ := tok_inj (hs.trans ht.symm) ⟨ra.1, ra.2.1⟩ ⟨rb.1, rb.2.1⟩ hc hd
    rcases h3 with ⟨h4, rfl, rfl⟩ | ⟨h4, rfl, rfl⟩ <;> rcases k3 with ⟨k4, rfl, rfl⟩ | ⟨k4, rfl, rfl⟩
    · exact ⟨rfl, rfl⟩
    · omega
    · omega
    · exact ⟨rfl, rfl⟩
/-- No token: there is no point, or something is spelt wrongly. -/
theorem no_tok_spelt {s : ByteArray} (h : hasDot s = false ∨ frontL s = none ∨ backL s = none) (k : Sec) (c : Clm) : tokS k c ≠ s := by
  rintro rfl
  obtain ⟨a, b, d⟩ := tok_parts k c
  rw [a, b, d] at h
  simp at h
/-- No token: what is spelt is no payload. -/
theorem no_tok_parse {s : ByteArray} {b : List Int} (hf : frontL s = some b) (h : parseB b = false) (k : Sec) (hk : 0 ≤ k.id ∧ k.id ≤ 1099511627776) (c : Clm) (hc : ClmOk c) : tokS k c ≠ s := by
  rintro rfl
  rw [(tok_parts k c).2.1] at hf
  obtain rfl := Option.some.inj hf
  rw [(parse_pay k.id c hk hc).1] at h
  cases h
/-- Whose token it must be. -/
theorem tok_whose {s : ByteArray} {b m : List Int} (hf : frontL s = some b) (hm : backL s = some m) (k : Sec) (hk : 0 ≤ k.id ∧ k.id ≤ 1099511627776) (c : Clm) (hc : ClmOk c) (ht : tokS k c = s) : k.id = idOf b ∧ c = clmOf b ∧ m = mac k.key b := by
  subst ht
  obtain ⟨_, h1, h2⟩ := tok_parts k c
  rw [h1] at hf
  rw [h2] at hm
  obtain rfl := Option.some.inj hf
  obtain rfl := Option.some.inj hm
  obtain ⟨_, a1, a2⟩ := parse_pay k.id c hk hc
  exact ⟨a1.symm, a2.symm, rfl⟩
end Go.Proofs.YtcgenmogedndjaaDoor
namespace Go.Proofs.YtcgenmogedndjaaDoor
open Go.RowKit Go.Proofs.YtcgenmogedndjaaDoorW.PrintWords
theorem take_snoc' (l : List Int) (k : Nat) (h : k < l.length) : l.take (k + 1) = l.take k ++ [rd l k] := by
  rw [List.take_succ_eq_append_getElem h, rd_get l k h]
theorem take_step (l m : List Int) (k : Nat) (h : k < l.length) (h' : k < m.length) : l.take (k + 1) = m.take (k + 1) ↔ l.take k = m.take k ∧ rd l k = rd m k := by
  rw [take_snoc' l k h, take_snoc' m k h']
  constructor
  · intro e
    have e' := List.append_inj e (by rw [List.length_take, List.length_take]; omega)
    exact ⟨e'.1, by simpa using e'.2⟩
  · rintro ⟨e1, e2⟩
    rw [e1, e2]
theorem xor8_zero (a b : Int) (a0 : 0 ≤ a) (a1 : a < 256) (b0 : 0 ≤ b) (b1 : b < 256) : (0 ≤ bits .xor .u8 a b ∧ bits .xor .u8 a b < 256) ∧ (bits .xor .u8 a b = 0 ↔ a = b) := by
  obtain ⟨x, rfl⟩ := Int.eq_ofNat_of_zero_le a0
  obtain ⟨y, rfl⟩ := Int.eq_ofNat_of_zero_le b0
  have h := xor_u8 x y (by omega) (by omega)
  have hl : x ^^^ y < 2 ^ 8 := Nat.xor_lt_two_pow (by omega) (by omega)
  rw [h]
  refine ⟨by omega, ?_⟩
  have hx : x ^^^ y = 0 ↔ x = y := by
    constructor
    · intro h0
      have := congrArg (· ^^^ y) h0
      simpa [Nat.xor_assoc] using this
    · rintro rfl
      exact Nat.xor_self x
  omega
theorem or8_zero (a b : Int) (a0 : 0 ≤ a) (a1 : a < 256) (b0 : 0 ≤ b) (b1 : b < 256) : (0 ≤ bits .or .u8 a b ∧ bits .or .u8 a b < 256) ∧ (bits .or .u8 a b = 0 ↔ a = 0 ∧ b = 0) := by
  obtain ⟨x, rfl⟩ := Int.eq_ofNat_of_zero_le a0
  obtain ⟨y, rfl⟩ := Int.eq_ofNat_of_zero_le b0
  have h := or_u8 x y (by omega) (by omega)
  have hl : x ||| y < 2 ^ 8 := Nat.or_lt_two_pow (by omega) (by omega)
  rw [h]
  refine ⟨by omega, ?_⟩
  rw [show (((x ||| y : Nat) : Int) = 0 ↔ x ||| y = 0) from by omega, Nat.or_eq_zero_iff]
  omega
set_option maxHeartbeats 1600000 in
theorem Same_calls {n m : Nat} (A0 : Option Addr) (c0 : Nat) (l0 : List Int) (A1 : Option Addr) (c1 : Nat) (l1 : List Int) (w : World) (hr0 : Rd w A0 n l0) (hr1 : Rd w A1 m l1) (hb0 : Bytes l0) (hb1 : Bytes l1) :
    Calls Tryd.prog 33 #[.slice A0 n c0, .slice A1 m c1] w fun e w' => e = .returned (.bool (decide (l0 = l1))) ∧ Drawn0 w w' := by
  have hl0 := Kd.C_len hr0
  have hl1 := Kd.C_len hr1
  have hmx := Kd.C_max hr0
  by_cases hnm : n = m
  · subst hnm
    have HR0 := Lib.hid hr0
    have HR1 := Lib.hid hr1
    have HY0 := Lib.hid hb0
    have HY1 := Lib.hid hb1
    have HL0 := Lib.hid hl0
    have HL1 := Lib.hid hl1
    clear hr0 hr1 hb0 hb1 hl0 hl1
    go_enter Tryd.func33, Tryd.ntmps33
    go_wp2
    go_loopw [5, 14] (fun x i wr => ∃ (k : Nat) (y : Int), k ≤ n ∧ i = .int .i64 k ∧ x = .int .u8 y ∧ 0 ≤ y ∧ y < 256 ∧ Hid (y = 0 ↔ l0.take k = l1.take k) ∧ Hid (Drawn0 w wr)) (fun _ i _ => n - (intOf i).toNat)
    case atStart => exact ⟨0, 0, by omega, rfl, rfl, by omega, by omega, Lib.hid (by simp), Lib.hid (Drawn0.refl _)⟩
    case round =>
      obtain ⟨k, y, hk, rfl, rfl, y0, y1, HE, HD⟩ := hrel
      by_cases hkn : k < n
      · have dkn : decide ((k : Int) < n) = true := decide_eq_true (by omega)
        obtain ⟨ad0, rfl, hc0⟩ := Rd.cells (Kd.C_below HR0.out HD.out.below) (by omega)
        obtain ⟨ad1, rfl, hc1⟩ := Rd.cells (Kd.C_below HR1.out HD.out.below) (by omega)
        have x0 := hc0 k hkn
        have x1 := hc1 k hkn
        obtain ⟨p0, p1⟩ := bytes_rd HY0.out k (by rw [HL0.out]; exact hkn)
        obtain ⟨q0, q1⟩ := bytes_rd HY1.out k (by rw [HL1.out]; exact hkn)
        have HT := Lib.hid (take_step l0 l1 k (by rw [HL0.out]; exact hkn) (by rw [HL1.out]; exact hkn))
        obtain ⟨p, hp⟩ : ∃ p, p = rd l0 k := ⟨_, rfl⟩
        obtain ⟨q, hq⟩ : ∃ q, q = rd l1 k := ⟨_, rfl⟩
        rw [← hp] at x0 p0 p1 HT
        rw [← hq] at x1 q0 q1 HT
        have hx := xor8_zero p q p0 p1 q0 q1
        obtain ⟨X, hX⟩ : ∃ X, bits .xor .u8 p q = X := ⟨_, rfl⟩
        rw [hX] at hx
        have ho := or8_zero y X y0 y1 hx.1.1 hx.1.2
        obtain ⟨Z, hZ⟩ : ∃ Z, bits .or .u8 y X = Z := ⟨_, rfl⟩
        rw [hZ] at ho
        have HE2 := Lib.hid (show Z = 0 ↔ l0.take (k + 1) = l1.take (k + 1) by rw [ho.2, hx.2, HT.out, HE.out])
        have hzr := ho.1
        have ik : (k : Int) < n := by omega
        clear hc0 hc1 hp hq hx ho
        go_wp2_with fail
        go_quiet (fail)
        go_wp2
        go_roundw
        case rel => exact ⟨k + 1, Z, by omega, by go_num, rfl, hzr.1, hzr.2, HE2, Lib.hid (HD.out.step _)⟩
        case measure => simp [intOf]; omega
      · obtain rfl : k = n := by omega
        have dkn : decide ((k : Int) < k) = false := decide_eq_false (by omega)
        have hE : y = 0 ↔ l0 = l1 := by
          have := HE.out
          rwa [List.take_of_length_le (by rw [HL0.out]; exact Nat.le_refl _), List.take_of_length_le (by rw [HL1.out]; exact Nat.le_refl _)] at this
        have HQ := Lib.hid (show (y == 0) = decide (l0 = l1) by rw [Bool.eq_iff_iff, beq_iff_eq, decide_eq_true_iff]; exact hE)
        clear hE
        go_wp2
        go_ret
        exact ⟨congrArg (fun b => Ending.returned (Value.bool b)) HQ.out, HD.out⟩
  · have hne : l0 ≠ l1 := fun h => hnm (by rw [← hl0, ← hl1, h])
    have HN := Lib.hid (show decide (l0 = l1) = false from decide_eq_false hne)
    have d1 : ((n : Int) == m) = false := beq_eq_false_iff_ne.2 (by omega)
    have d2 : ((n : Int) != m) = true := by rw [bne, d1]; rfl
    have d3 : (n == m) = false := beq_eq_false_iff_ne.2 hnm
    have d4 : (n != m) = true := by rw [bne, d3]; rfl
    clear hnm hne hl0 hl1
    go_enter Tryd.func33, Tryd.ntmps33
    go_wp2
    go_ret
    exact ⟨by rw [HN.out]; rfl, Drawn0.refl _⟩
end Go.Proofs.YtcgenmogedndjaaDoor
