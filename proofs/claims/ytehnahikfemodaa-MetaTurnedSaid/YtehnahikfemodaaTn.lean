/- A directory that is laid turns as its row says: the plain law. -/
import Derived.Test.YtehnahikfemodaaTrn
import Derived.Test.YtehnahikfemodaaTwo
import Derived.Test.YtehnahikfemodaaBk
namespace Go.Proofs.Ytehnahikfemodaa.Ct
open Go.ChangeShapes Go.WideShapes Go.RowKit Mm
/-- the bytes of n from the lowest on -/
def dig (n : Nat) : Nat → List Int
  | 0 => []
  | i + 1 => dig n i ++ [((n / 256 ^ i % 256 : Nat) : Int)]
def bsI (n : Nat) (high : Bool) (i : Nat) : ByteArray := strOfNums (if high then (dig n i).reverse else dig n i)
theorem dig_len (n i : Nat) : (dig n i).length = i := by induction i with
  | zero => rfl
  | succ i ih => simp [dig, ih]
theorem bsI_size (n : Nat) (high : Bool) (i : Nat) : (bsI n high i).size = i := by
  unfold bsI
  rw [strOfNums_size]
  cases high <;> simp [dig_len]
theorem nums_app (a b : List Int) : strOfNums (a ++ b) = strOfNums a ++ strOfNums b := by
  apply ByteArray.ext
  rw [ByteArray.data_append]
  apply Array.ext'
  simp [strOfNums]
theorem bsI_high (n i : Nat) : bsI n true (i + 1) = strOfNums [((n / 256 ^ i % 256 : Nat) : Int)] ++ bsI n true i := by
  unfold bsI
  simp only [if_true, dig, List.reverse_append, List.reverse_cons, List.reverse_nil, List.nil_append]
  rw [nums_app]
theorem bsI_low (n i : Nat) : bsI n false (i + 1) = bsI n false i ++ strOfNums [((n / 256 ^ i % 256 : Nat) : Int)] := by
  unfold bsI
  simp only [Bool.false_eq_true, if_false, dig]
  rw [nums_app]
theorem nat8_nums (xs : List Int) (i : Nat) (h : i < xs.length) (h0 : 0 ≤ xs[i] ∧ xs[i] ≤ 255) : (nat8 (strOfNums xs) i : Int) = xs[i] := by
  unfold nat8 strOfNums
  simp only [List.getElem?_toArray, List.getElem?_map, List.getElem?_eq_getElem h, Option.map_some, Option.getD_some]
  rw [UInt8.toNat_ofNat']
  omega
theorem nat8_mid (a b c : ByteArray) (i : Nat) (h : i < b.size) : nat8 (a ++ (b ++ c)) (a.size + i) = nat8 b i := by
  unfold nat8
  have e1 : a.data.size = a.size := rfl
  have e2 : b.data.size = b.size := rfl
  rw [ByteArray.data_append, ByteArray.data_append, Array.getElem?_append_right (by omega), e1, Nat.add_sub_cancel_left, Array.getElem?_append_left (by omega)]
theorem num2_mid (a c : ByteArray) (n : Nat) (high : Bool) (h : n < 65536) : numN (a ++ (bsI n high 2 ++ c)) a.size 2 high = n := by
  unfold numN valN valN valN
  have z : (bsI n high 2).size = 2 := bsI_size n high 2
  cases high
  · simp only [Bool.false_eq_true, if_false]
    rw [show a.size + 2 - 1 - 0 = a.size + 1 from by omega, show a.size + 2 - 1 - 1 = a.size + 0 from by omega, nat8_mid _ _ _ 1 (by omega), nat8_mid _ _ _ 0 (by omega)]
    have h0 := nat8_nums (dig n 2) 0 (by simp [dig]) (by simp [dig]; omega)
    have h1 := nat8_nums (dig n 2) 1 (by simp [dig]) (by simp [dig]; omega)
    simp [dig] at h0 h1
    have e : bsI n false 2 = strOfNums [((n % 256 : Nat) : Int), ((n / 256 % 256 : Nat) : Int)] := by unfold bsI; simp [dig]
    rw [e]
    simp at h0 h1 ⊢
    omega
  · simp only [if_true]
    rw [nat8_mid _ _ _ 0 (by omega), nat8_mid _ _ _ 1 (by omega)]
    have e : bsI n true 2 = strOfNums [((n / 256 % 256 : Nat) : Int), ((n % 256 : Nat) : Int)] := by unfold bsI; simp [dig]
    have h0 := nat8_nums [((n / 256 % 256 : Nat) : Int), ((n % 256 : Nat) : Int)] 0 (by simp) (by simp; omega)
    have h1 := nat8_nums [((n / 256 % 256 : Nat) : Int), ((n % 256 : Nat) : Int)] 1 (by simp) (by simp; omega)
    rw [e]
    simp at h0 h1 ⊢
    omega
theorem num4_mid (a c : ByteArray) (n : Nat) (high : Bool) (h : n < 4294967296) : numN (a ++ (bsI n high 4 ++ c)) a.size 4 high = n := by
  unfold numN valN valN valN valN valN
  have z : (bsI n high 4).size = 4 := bsI_size n high 4
  cases high
  · simp only [Bool.false_eq_true, if_false]
    rw [show a.size + 4 - 1 - 0 = a.size + 3 from by omega, show a.size + 4 - 1 - 1 = a.size + 2 from by omega, show a.size + 4 - 1 - 2 = a.size + 1 from by omega, show a.size + 4 - 1 - 3 = a.size + 0 from by omega, nat8_mid _ _ _ 3 (by omega), nat8_mid _ _ _ 2 (by omega), nat8_mid _ _ _ 1 (by omega), nat8_mid _ _ _ 0 (by omega)]
    have e : bsI n false 4 = strOfNums [((n % 256 : Nat) : Int), ((n / 256 % 256 : Nat) : Int), ((n / 65536 % 256 : Nat) : Int), ((n / 16777216 % 256 : Nat) : Int)] := by unfold bsI; simp [dig]
    have h0 := nat8_nums [((n % 256 : Nat) : Int), ((n / 256 % 256 : Nat) : Int), ((n / 65536 % 256 : Nat) : Int), ((n / 16777216 % 256 : Nat) : Int)] 0 (by simp) (by simp; omega)
    have h1 := nat8_nums [((n % 256 : Nat) : Int), ((n / 256 % 256 : Nat) : Int), ((n / 65536 % 256 : Nat) : Int), ((n / 16777216 % 256 : Nat) : Int)] 1 (by simp) (by simp; omega)
    have h2 := nat8_nums [((n % 256 : Nat) : Int), ((n / 256 % 256 : Nat) : Int), ((n / 65536 % 256 : Nat) : Int), ((n / 16777216 % 256 : Nat) : Int)] 2 (by simp) (by simp; omega)
    have h3 := nat8_nums [((n % 256 : Nat) : Int), ((n / 256 % 256 : Nat) : Int), ((n / 65536 % 256 : Nat) : Int), ((n / 16777216 % 256 : Nat) : Int)] 3 (by simp) (by simp; omega)
    rw [e]
    simp at h0 h1 h2 h3 ⊢
    omega
  · simp only [if_true]
    rw [nat8_mid _ _ _ 0 (by omega), nat8_mid _ _ _ 1 (by omega), nat8_mid _ _ _ 2 (by omega), nat8_mid _ _ _ 3 (by omega)]
    have e : bsI n true 4 = strOfNums [((n / 16777216 % 256 : Nat) : Int), ((n / 65536 % 256 : Nat) : Int), ((n / 256 % 256 : Nat) : Int), ((n % 256 : Nat) : Int)] := by unfold bsI; simp [dig]
    have h0 := nat8_nums [((n / 16777216 % 256 : Nat) : Int), ((n / 65536 % 256 : Nat) : Int), ((n / 256 % 256 : Nat) : Int), ((n % 256 : Nat) : Int)] 0 (by simp) (by simp; omega)
    have h1 := nat8_nums [((n / 16777216 % 256 : Nat) : Int), ((n / 65536 % 256 : Nat) : Int), ((n / 256 % 256 : Nat) : Int), ((n % 256 : Nat) : Int)] 1 (by simp) (by simp; omega)
    have h2 := nat8_nums [((n / 16777216 % 256 : Nat) : Int), ((n / 65536 % 256 : Nat) : Int), ((n / 256 % 256 : Nat) : Int), ((n % 256 : Nat) : Int)] 2 (by simp) (by simp; omega)
    have h3 := nat8_nums [((n / 16777216 % 256 : Nat) : Int), ((n / 65536 % 256 : Nat) : Int), ((n / 256 % 256 : Nat) : Int), ((n % 256 : Nat) : Int)] 3 (by simp) (by simp; omega)
    rw [e]
    simp at h0 h1 h2 h3 ⊢
    omega
abbrev z2 : ByteArray := { data := #[0, 0] }
def row (high : Bool) (t : Nat) : ByteArray := bsI t high 2 ++ (bsI 3 high 2 ++ (bsI 1 high 4 ++ (bsI 5 high 2 ++ z2)))
def lrow (high : Bool) (k c v : Nat) : ByteArray := bsI 274 high 2 ++ (bsI k high 2 ++ (bsI c high 4 ++ (bsI v high 2 ++ z2)))
theorem row_size (high : Bool) (t : Nat) : (row high t).size = 12 := by
  unfold row; simp only [ByteArray.size_append, bsI_size]; rfl
theorem lrow_size (high : Bool) (k c v : Nat) : (lrow high k c v).size = 12 := by
  unfold lrow; simp only [ByteArray.size_append, bsI_size]; rfl
def rowsB (high : Bool) : List Nat → ByteArray
  | [] => ByteArray.empty
  | t :: ts => row high t ++ rowsB high ts
theorem rowsB_snoc (high : Bool) (ts : List Nat) (t : Nat) : rowsB high (ts ++ [t]) = rowsB high ts ++ row high t := by
  induction ts with
  | nil => simp [rowsB]
  | cons a ts ih => simp only [List.cons_append, rowsB, ih, ByteArray.append_assoc]
theorem rowsB_size (high : Bool) (ts : List Nat) : (rowsB high ts).size = 12 * ts.length := by
  induction ts with
  | nil => rfl
  | cons a ts ih => simp only [rowsB, ByteArray.size_append, row_size, ih, List.length_cons]; omega
theorem rows_go (high : Bool) (ts : List Nat) (m : Nat) (pre post : ByteArray) (h : ∀ t ∈ ts, t ≠ 274 ∧ t < 65536) :
    rowsGo (pre ++ (rowsB high ts ++ post)) high (ts.length + m) pre.size = rowsGo (pre ++ (rowsB high ts ++ post)) high m (pre.size + 12 * ts.length) := by
  induction ts generalizing pre with
  | nil => simp [rowsB]
  | cons a ts ih =>
    have ha := h a (by simp)
    have ih' := ih (pre ++ row high a) (fun t ht => h t (by simp [ht]))
    rw [ByteArray.size_append, row_size] at ih'
    have e : pre ++ row high a ++ (rowsB high ts ++ post) = pre ++ (rowsB high (a :: ts) ++ post) := by
      simp only [rowsB, ByteArray.append_assoc]
    rw [e] at ih'
    rw [show (a :: ts).length + m = (ts.length + m) + 1 from by simp; omega, rowsGo]
    have hs : pre.size + 12 ≤ (pre ++ (rowsB high (a :: ts) ++ post)).size := by
      simp only [ByteArray.size_append, rowsB_size, List.length_cons]; omega
    have hn : numN (pre ++ (rowsB high (a :: ts) ++ post)) pre.size 2 high = a := by
      simp only [rowsB, row, ByteArray.append_assoc]
      exact num2_mid _ _ a high ha.2
    rw [if_pos hs, hn, if_neg ha.1, ih']
    congr 1
    simp only [List.length_cons]; omega
theorem last_go (high : Bool) (k c v : Nat) (pre post : ByteArray) (hk : k < 65536) (hc : c < 4294967296) (hv : v < 65536) :
    rowsGo (pre ++ (lrow high k c v ++ post)) high 1 pre.size = if k = 3 ∧ c = 1 ∧ 1 ≤ v ∧ v ≤ 8 then (v : Int) else 0 := by
  rw [show (1 : Nat) = 0 + 1 from rfl, rowsGo]
  have hs : pre.size + 12 ≤ (pre ++ (lrow high k c v ++ post)).size := by
    simp only [ByteArray.size_append, lrow_size]; omega
  have hn : numN (pre ++ (lrow high k c v ++ post)) pre.size 2 high = 274 := by
    simp only [lrow, ByteArray.append_assoc]
    exact num2_mid _ _ 274 high (by omega)
  have hn1 : numN (pre ++ (lrow high k c v ++ post)) (pre.size + 2) 2 high = k := by
    have := num2_mid (pre ++ bsI 274 high 2) (bsI c high 4 ++ (bsI v high 2 ++ (z2 ++ post))) k high hk
    rw [ByteArray.size_append, bsI_size] at this
    simpa only [lrow, ByteArray.append_assoc] using this
  have hn2 : numN (pre ++ (lrow high k c v ++ post)) (pre.size + 4) 4 high = c := by
    have := num4_mid (pre ++ bsI 274 high 2 ++ bsI k high 2) (bsI v high 2 ++ (z2 ++ post)) c high hc
    rw [ByteArray.size_append, ByteArray.size_append, bsI_size, bsI_size] at this
    simpa only [lrow, ByteArray.append_assoc, Nat.add_assoc] using this
  have hn3 : numN (pre ++ (lrow high k c v ++ post)) (pre.size + 8) 2 high = v := by
    have := num2_mid (pre ++ bsI 274 high 2 ++ bsI k high 2 ++ bsI c high 4) (z2 ++ post) v high hv
    rw [ByteArray.size_append, ByteArray.size_append, ByteArray.size_append, bsI_size, bsI_size, bsI_size] at this
    simpa only [lrow, ByteArray.append_assoc, Nat.add_assoc] using this
  rw [if_pos hs, hn, if_pos rfl, rowTurn, hn1, hn2, hn3]
theorem less_go (high : Bool) (pre X : ByteArray) (hX : X.size = 11) : rowsGo (pre ++ X) high 1 pre.size = 0 := by
  rw [show (1 : Nat) = 0 + 1 from rfl, rowsGo, if_neg (by rw [ByteArray.size_append]; omega)]
/-- a directory's head -/
def hd (high : Bool) (gap : ByteArray) (R : Nat) : ByteArray := (if high then mmH else iiH) ++ (bsI 42 high 2 ++ (bsI (8 + gap.size) high 4 ++ (gap ++ bsI (R + 1) high 2)))
theorem hd_size (high : Bool) (gap : ByteArray) (R : Nat) : (hd high gap R).size = 10 + gap.size := by
  unfold hd
  simp only [ByteArray.size_append, bsI_size]
  cases high
  · have : iiH.size = 2 := rfl
    simp only [Bool.false_eq_true, if_false]; omega
  · have : mmH.size = 2 := rfl
    simp only [if_true]; omega
theorem dir_hd (high : Bool) (gap : ByteArray) (R : Nat) (post : ByteArray) (hg : gap.size ≤ 60000) (hR : R ≤ 4000) :
    dirGo (hd high gap R ++ post) high = rowsGo (hd high gap R ++ post) high (R + 1) (hd high gap R).size := by
  obtain ⟨H, hH⟩ : ∃ H, H = (if high then mmH else iiH) := ⟨_, rfl⟩
  have hs : H.size = 2 := by rw [hH]; cases high <;> rfl
  have e : hd high gap R = H ++ (bsI 42 high 2 ++ (bsI (8 + gap.size) high 4 ++ (gap ++ bsI (R + 1) high 2))) := by rw [hH]; rfl
  have n1 : numN (hd high gap R ++ post) 2 2 high = 42 := by
    have := num2_mid H (bsI (8 + gap.size) high 4 ++ (gap ++ (bsI (R + 1) high 2 ++ post))) 42 high (by omega)
    rw [hs] at this
    simpa only [e, ByteArray.append_assoc] using this
  have n2 : numN (hd high gap R ++ post) 4 4 high = 8 + gap.size := by
    have := num4_mid (H ++ bsI 42 high 2) (gap ++ (bsI (R + 1) high 2 ++ post)) (8 + gap.size) high (by omega)
    rw [ByteArray.size_append, hs, bsI_size] at this
    simpa only [e, ByteArray.append_assoc] using this
  have n3 : numN (hd high gap R ++ post) (8 + gap.size) 2 high = R + 1 := by
    have := num2_mid (H ++ bsI 42 high 2 ++ bsI (8 + gap.size) high 4 ++ gap) post (R + 1) high (by omega)
    rw [ByteArray.size_append, ByteArray.size_append, ByteArray.size_append, hs, bsI_size, bsI_size, show 2 + 2 + 4 + gap.size = 8 + gap.size from by omega] at this
    simpa only [e, ByteArray.append_assoc] using this
  have hz := hd_size high gap R
  unfold dirGo
  rw [n1, n2, n3, if_pos ⟨by rw [ByteArray.size_append]; omega, rfl⟩, if_pos (by rw [ByteArray.size_append]; omega), hz]
  congr 1
  omega
theorem turns_hd (high : Bool) (gap : ByteArray) (R : Nat) (post : ByteArray) (hg : gap.size ≤ 60000) (hR : R ≤ 4000) :
    turnsOf (hd high gap R ++ post) = rowsGo (hd high gap R ++ post) high (R + 1) (hd high gap R).size := by
  rw [← dir_hd high gap R post hg hR]
  unfold turnsOf
  cases high
  · have hz := hd_size false gap R
    have h1 : begins (hd false gap R ++ post) mmH = false := by
      rw [begins2 _ (by rw [ByteArray.size_append]; omega)]
      unfold hd
      simp only [Bool.false_eq_true, if_false]
      rw [ByteArray.append_assoc, ByteArray.extract_append_eq_left (by rfl)]
      decide +kernel
    have h2 : begins (hd false gap R ++ post) iiH = true := by
      unfold hd
      simp only [Bool.false_eq_true, if_false]
      rw [ByteArray.append_assoc]
      exact begins_app _ _
    rw [h1, h2]
    rfl
  · have h1 : begins (hd true gap R ++ post) mmH = true := by
      unfold hd
      simp only [if_true]
      rw [ByteArray.append_assoc]
      exact begins_app _ _
    rw [h1]
    rfl
theorem turns_full (high : Bool) (gap : ByteArray) (ts : List Nat) (k c v : Nat) (tail : ByteArray) (hg : gap.size ≤ 60000) (hR : ts.length ≤ 4000) (ht : ∀ t ∈ ts, t ≠ 274 ∧ t < 65536) (hk : k < 65536) (hc : c < 4294967296) (hv : v < 65536) :
    turnsOf (hd high gap ts.length ++ (rowsB high ts ++ (lrow high k c v ++ tail))) = if k = 3 ∧ c = 1 ∧ 1 ≤ v ∧ v ≤ 8 then (v : Int) else 0 := by
  rw [turns_hd high gap ts.length _ hg hR, rows_go high ts 1 _ _ ht]
  have := last_go high k c v (hd high gap ts.length ++ rowsB high ts) tail hk hc hv
  rw [ByteArray.size_append, rowsB_size] at this
  simpa only [ByteArray.append_assoc] using this
theorem turns_less (high : Bool) (gap : ByteArray) (ts : List Nat) (X : ByteArray) (hX : X.size = 11) (hg : gap.size ≤ 60000) (hR : ts.length ≤ 4000) (ht : ∀ t ∈ ts, t ≠ 274 ∧ t < 65536) :
    turnsOf (hd high gap ts.length ++ (rowsB high ts ++ X)) = 0 := by
  rw [turns_hd high gap ts.length _ hg hR, rows_go high ts 1 _ _ ht]
  have := less_go high (hd high gap ts.length ++ rowsB high ts) X hX
  rw [ByteArray.size_append, rowsB_size] at this
  simpa only [ByteArray.append_assoc] using this
end Go.Proofs.Ytehnahikfemodaa.Ct
