/- Words for memory (no program): a slice of bytes that the call made; appends onto it; what the conversions between texts and bytes give. Conditions: none. -/
import Derived.Test.YtbkacmklgkgamaaApp
import Derived.Laws.IdiomStrings
import Derived.Laws.BytesArg
import Derived.Deep.AppendSrc
namespace Go.Proofs.Ytbkacmklgkgamaa
open Go.RowKit

/-- Numbers as cells of bytes. -/
def bc (l : List Nat) : List Value := l.map fun n : Nat => Value.int .u8 (n : Int)
theorem bc_len (l : List Nat) : (bc l).length = l.length := by simp [bc]
theorem bc_append (l m : List Nat) : bc (l ++ m) = bc l ++ bc m := by simp [bc]
theorem bc_one (l : List Nat) : ∀ u ∈ bc l, u.oneCell' = true := fun u hu => by
  obtain ⟨_, _, rfl⟩ := List.mem_map.1 hu
  rfl
/-- A text's bytes as numbers. -/
def nums (s : ByteArray) : List Nat := s.data.toList.map (·.toNat)
theorem nums_len (s : ByteArray) : (nums s).length = s.size := by
  unfold nums
  rw [List.length_map, Array.length_toList]
  rfl
theorem nums_lt (s : ByteArray) : ∀ x ∈ nums s, x < 256 := fun x hx => by
  obtain ⟨b, _, rfl⟩ := List.mem_map.1 hx
  exact b.toNat_lt
theorem byteCells_nums (s : ByteArray) : byteCells s = bc (nums s) := by simp [byteCells, bc, nums]
/-- Numbers as a text. -/
def txt (l : List Nat) : ByteArray := ⟨(l.map UInt8.ofNat).toArray⟩
theorem txt_size (l : List Nat) : (txt l).size = l.length := by simp [txt, ByteArray.size]
theorem strOfNums_txt (l : List Nat) : strOfNums (l.map Int.ofNat) = txt l := by simp [strOfNums, txt, Function.comp_def]
theorem nums_txt {l : List Nat} (h : ∀ x ∈ l, x < 256) : nums (txt l) = l := by
  unfold nums txt
  simp only [List.map_map]
  conv => rhs; rw [← List.map_id l]
  refine List.map_congr_left fun x hx => ?_
  have := h x hx
  simp [UInt8.toNat_ofNat_of_lt' this]
theorem txt_nums (s : ByteArray) : txt (nums s) = s := by
  obtain ⟨d⟩ := s
  simp [txt, nums, Function.comp_def]
theorem txt_inj {l m : List Nat} (hl : ∀ x ∈ l, x < 256) (hm : ∀ x ∈ m, x < 256) (h : txt l = txt m) : l = m := by rw [← nums_txt hl, ← nums_txt hm, h]

/-- A slice of bytes in a block of the call's own, from its first cell on: it reads as l and may be written up to its capacity. -/
def Bo (w : World) (B g n c : Nat) (l : List Nat) : Prop :=
  l.length = n ∧ B ≤ g ∧ g < w.heap.size ∧ n ≤ c ∧ c ≤ maxLen ∧ (∀ j, j < c → (w.cell? ⟨g, j, none⟩).isSome = true ∧ w.frozen? ⟨g, j, none⟩ = false) ∧ ∀ j u, (bc l)[j]? = some u → w.cell? ⟨g, j, none⟩ = some u

section
variable {w w' : World} {B g n c : Nat} {l : List Nat}
theorem Bo.len (h : Bo w B g n c l) : l.length = n := h.1
theorem Bo.lt (h : Bo w B g n c l) : g < w.heap.size := h.2.2.1
theorem Bo.ge (h : Bo w B g n c l) : B ≤ g := h.2.1
theorem Bo.cap (h : Bo w B g n c l) : n ≤ c := h.2.2.2.1
theorem Bo.cells (h : Bo w B g n c l) : ∀ j u, (bc l)[j]? = some u → w.cell? ⟨g, j, none⟩ = some u := h.2.2.2.2.2.2
theorem Bo.block (h : Bo w B g n c l) (hb : w'.heap[g]? = w.heap[g]?) (hs : w.heap.size ≤ w'.heap.size) : Bo w' B g n c l := by
  obtain ⟨h1, h2, h3, h4, h5, h6, h7⟩ := h
  refine ⟨h1, h2, by omega, h4, h5, fun j hj => ?_, fun j u hu => ?_⟩
  · rw [World.cell?_of_block (a := ⟨g, j, none⟩) hb, World.frozen?_of_block (a := ⟨g, j, none⟩) hb]
    exact h6 j hj
  · rw [World.cell?_of_block (a := ⟨g, j, none⟩) hb]
    exact h7 j u hu
theorem Bo.below (h : Bo w B g n c l) (hb : Below w.heap.size w w') : Bo w' B g n c l := h.block (hb.block g h.lt) hb.size
theorem Bo.below' {B' : Nat} (h : Bo w B g n c l) (hb : Below B' w w') (hg : g < B') : Bo w' B g n c l := h.block (hb.block g hg) hb.size
theorem Bo.alloc (h : Bo w B g n c l) (o : Obj) : Bo (w.alloc o) B g n c l := h.block (heap_alloc_old w o h.lt) (by simp)
theorem Bo.drew (h : Bo w B g n c l) : Bo w.drew B g n c l := h
theorem Bo.base {B' : Nat} (h : Bo w B g n c l) (hB : B' ≤ B) : Bo w B' g n c l := ⟨h.1, by have := h.2.1; omega, h.2.2⟩
theorem Bo.grown (h : Bo w B g n c l) {r : Nat} (hg : w.grownBy w' (some r)) (hr : g ≠ r) : Bo w' B g n c l := h.block (hg.block g h.lt (fun e => hr (by injection e))) hg.size
theorem Bo.rd (h : Bo w B g n c l) : Rd w w.heap.size 1 (some ⟨g, 0, none⟩) n (bc l) :=
  ⟨by rw [bc_len, h.1, Nat.mul_one], fun _ => ⟨g, 0, rfl, h.lt, fun j u hu => by rw [Nat.zero_add]; exact h.cells j u hu⟩⟩
/-- An empty slice that was just made. -/
theorem Bo.made (w : World) {B : Nat} (e : TypeId) (hB : B ≤ w.heap.size) : Bo (w.alloc (.cells #[] e)) B w.heap.size 0 0 [] :=
  ⟨rfl, hB, by simp, Nat.le_refl _, by unfold maxLen; omega, fun j hj => absurd hj (by omega), fun j u hu => by simp [bc] at hu⟩
end

theorem grown_setCells {a : World} {g : Nat} : ∀ (vs : List Value) (o : Nat) (w : World), a.grownBy w (some g) → a.grownBy (w.setCells g o vs) (some g)
  | [], _, _, h => h
  | v :: vs, o, w, h => grown_setCells vs (o + 1) _ (grown_set h rfl v)
theorem size_setCells (g : Nat) : ∀ (vs : List Value) (o : Nat) (w : World), (w.setCells g o vs).heap.size = w.heap.size
  | [], _, _ => rfl
  | v :: vs, o, w => by
    show (World.setCells (w.setCell ⟨g, o, none⟩ v) g (o + 1) vs).heap.size = _
    rw [size_setCells g vs (o + 1)]
    simp [World.setCell]

section
variable {P : Program}
theorem Src.bytes {w : World} {tx e' : TypeId} (hk : P.underlying tx = some (.slice e')) (g n c : Nat) (l : List Nat) (hl : l.length = n) (h : ∀ j u, (bc l)[j]? = some u → w.cell? ⟨g, j, none⟩ = some u) :
    Src P 1 tx (.slice (some ⟨g, 0, none⟩) n c) n (bc l) w :=
  Src.ofSlice w hk ⟨g, 0, none⟩ n c (bc l) (by rw [bc_len, hl, Nat.mul_one]) (fun j u hu => by rw [Addr.add_mid, Nat.zero_add]; exact h j u hu) (bc_one l)
theorem Src.text {w : World} {tx : TypeId} (hk : P.underlying tx = some .string) (s : ByteArray) : Src P 1 tx (.string s) s.size (bc (nums s)) w := by
  rw [← byteCells_nums]
  exact Src.ofString w hk s
/-- The elements of an append lie in a new block. -/
theorem Src.fresh {w : World} {tx e' : TypeId} (hk : P.underlying tx = some (.slice e')) (e : TypeId) (cs : Array Value) (l : List Nat) (n : Nat) (hl : l.length = n) (hc : cs.toList = bc l) (g : Nat) (hg : g = w.heap.size) :
    Src P 1 tx (.slice (some ⟨g, 0, none⟩) n n) n (bc l) (w.alloc (.cells cs e)) := by
  subst hg
  refine Src.bytes hk _ n n l hl (fun j u hu => ?_)
  rw [← hc] at hu
  have : (w.alloc (.cells cs e)).heap[w.heap.size]? = some (.cells cs e) := heap_alloc_new w _
  unfold World.cell?
  rw [this]
  simpa using hu

theorem run_append_bytes (w : World) (t tx ty e : TypeId) (i : TypeInfo) (z : Value) (ht : P.underlying t = some (.slice e)) (hi : P.info? e = some i) (hz : i.zero = some z) (hsize : i.size = 1) (hby : i.bytes = 1) (hzs : z.cells.size = 1)
    (hzc : z.oneCell' = true) (B g n c : Nat) (l : List Nat) (hown : Bo w B g n c l) (x : Value) (m : Nat) (news : List Nat) (hs : Src P 1 tx x m (bc news) w) (hm : n + m ≤ 1099511627776) (hB : B ≤ w.heap.size) :
    ∃ g' c' w', (Builtin.append_ #[t, tx] ty #[.slice (some ⟨g, 0, none⟩) n c, x]).run P w = .ok (.slice (some ⟨g', 0, none⟩) (n + m) c') w' ∧ Bo w' B g' (n + m) c' (l ++ news) ∧ w.grownBy w' (some g) ∧ (g' = g ∨ g' = w.heap.size) := by
  obtain ⟨h1, h2, h3, h4, h5, h6, h7⟩ := hown
  have hnl : news.length = m := by have := hs.newsLen; rw [bc_len] at this; omega
  by_cases hroom : n + m ≤ c
  · have hc : ∀ j, j < (bc news).length → (w.cell? ⟨g, 0 + n * i.size + j, none⟩).isSome = true := fun j hj => by
      rw [bc_len] at hj
      exact (h6 _ (by rw [hsize]; omega)).1
    have hf : ∀ j, j < (bc news).length → w.frozen? ⟨g, 0 + n * i.size + j, none⟩ = false := fun j hj => by
      rw [bc_len] at hj
      exact (h6 _ (by rw [hsize]; omega)).2
    have hr := run_append_room_src (P := P) w t tx ty e i ht hi g 0 n c x m (bc news) (by rw [hsize]; exact hs) hroom hc hf
    have e1 : 0 + n * i.size = n := by rw [hsize]; omega
    rw [e1] at hr hc hf
    have hsz : (w.setCells g n (bc news)).heap.size = w.heap.size := size_setCells _ _ _ _
    refine ⟨g, c, _, hr, ⟨by rw [List.length_append, h1, hnl], h2, by rw [hsz]; exact h3, hroom, h5, fun j hj => ⟨World.isSome_setCells g _ _ _ _ (h6 j hj).1, by rw [World.frozen?_setCells]; exact (h6 j hj).2⟩, fun j u hu => ?_⟩, ?_, .inl rfl⟩
    · rw [bc_append] at hu
      rcases Nat.lt_or_ge j n with hj | hj
      · rw [List.getElem?_append_left (by rw [bc_len, h1]; exact hj)] at hu
        rw [World.cell?_setCells_out g _ _ _ _ (fun _ _ => .inl hj)]
        exact h7 j u hu
      · rw [List.getElem?_append_right (by rw [bc_len, h1]; exact hj), bc_len, h1] at hu
        have hj' := (List.getElem?_eq_some_iff.1 hu)
        obtain ⟨hj1, hj2⟩ := hj'
        have := World.cell?_setCells_in g (bc news) n w hc (j - n) hj1
        rw [show n + (j - n) = j by omega] at this
        rw [this, hj2]
    · exact grown_setCells _ _ _ (World.grownBy.refl w (some g))
  · have hold : (Builtin.firstCells i.size n (.slice (some ⟨g, 0, none⟩) n c)).run P w.drew = .ok (bc l).toArray w.drew := by
      rw [hsize]
      refine run_firstCells_some w.drew 1 n ⟨g, 0, none⟩ n c (bc l) (by rw [bc_len, h1, Nat.mul_one]) (fun j u hu => ?_)
      rw [Addr.add_mid, Nat.zero_add]
      exact h7 j u hu
    have hml : n + m ≤ maxLen := by unfold maxLen; omega
    have hr := run_append_grow_src (P := P) w t tx ty e i z ht hi hz (some ⟨g, 0, none⟩) n c (bc l) hold x m (bc news) (by rw [hsize]; exact hs) (by omega) (by omega) (growslice_fits (by omega) (by rw [hby]; omega))
    have hge := grownCap_ge w (n + m) c e
    have hcm : grownCap w (n + m) c e ≤ maxLen := grownCap_le_maxLen w (n + m) c e hml
    refine ⟨w.heap.size, _, _, hr, ⟨by rw [List.length_append, h1, hnl], hB, by simp, hge, hcm, fun j hj => ?_, fun j u hu => ?_⟩, ⟨rfl, rfl, rfl, by simp, fun k hk _ => heap_alloc_old w.drew _ hk⟩, .inr rfl⟩
    · have hnew := heap_alloc_new w.drew (.cells ((bc l ++ bc news).toArray ++ Builtin.zeroCells z.cells (grownCap w (n + m) c e - (n + m))) e)
      have hnew' : (w.drew.alloc (.cells ((bc l ++ bc news).toArray ++ Builtin.zeroCells z.cells (grownCap w (n + m) c e - (n + m))) e)).heap[w.heap.size]? = some (.cells ((bc l ++ bc news).toArray ++ Builtin.zeroCells z.cells (grownCap w (n + m) c e - (n + m))) e) := hnew
      have hsz : ((bc l ++ bc news).toArray ++ Builtin.zeroCells z.cells (grownCap w (n + m) c e - (n + m))).size = grownCap w (n + m) c e := by
        rw [Array.size_append, size_zeroCells, hzs, List.size_toArray, List.length_append, bc_len, bc_len, h1, hnl]
        omega
      constructor
      · unfold World.cell?
        rw [hnew']
        simp only []
        rw [Array.getElem?_eq_getElem (by rw [hsz]; exact hj)]
        rfl
      · unfold World.frozen?
        rw [hnew']
        simp
    · have hnew' : (w.drew.alloc (.cells ((bc l ++ bc news).toArray ++ Builtin.zeroCells z.cells (grownCap w (n + m) c e - (n + m))) e)).heap[w.heap.size]? = some (.cells ((bc l ++ bc news).toArray ++ Builtin.zeroCells z.cells (grownCap w (n + m) c e - (n + m))) e) := heap_alloc_new w.drew _
      unfold World.cell?
      rw [hnew']
      simp only []
      rw [bc_append] at hu
      have hj := (List.getElem?_eq_some_iff.1 hu).1
      rw [Array.getElem?_append_left (by simpa using hj)]
      simpa using hu

/-- 'append(s, x)', 'append(s, x...)' onto bytes of the call's own. -/
theorem wpList_append_bytes {W : World} {ops : Array Oper} {rest : List Oper} {o : Oper} {a : Act} {Q : Exit → Act → World → Prop} (hgd : o.guard = none) (s x : Operand) (t tx : TypeId)
    (ho : o.op = .call { callee := .builtin .append, args := #[s, x], argTypes := #[t, tx] })
    (e : TypeId) (z : Value) (ht : P.underlying t = some (.slice e)) (hinfo : (P.info? e).map (fun i => (i.zero, i.size, i.bytes)) = some (some z, 1, 1)) (hzs : z.cells.size = 1) (hzc : z.oneCell' = true)
    (B g n c : Nat) (l : List Nat) (hs : a.eval s = .slice (some ⟨g, 0, none⟩) n c) (hown : Bo W B g n c l)
    (m : Nat) (news : List Nat) (hx : Src P 1 tx (a.eval x) m (bc news) W) (hm : n + m ≤ 1099511627776) (hB : B ≤ W.heap.size)
    (h : ∀ g' c' w', Bo w' B g' (n + m) c' (l ++ news) → W.grownBy w' (some g) → (g' = g ∨ g' = W.heap.size) → wpList P ops Q rest (a.put o.dst (.slice (some ⟨g', 0, none⟩) (n + m) c')) w') :
    wpList P ops Q (o :: rest) a W := by
  obtain ⟨i, hi, hz, hsize, hby⟩ := info_parts hinfo
  refine wpList_plain hgd fun K hK => ?_
  obtain ⟨g', c', w', hr, h2, h3, h4⟩ := run_append_bytes (P := P) W t tx o.type e i z ht hi hz hsize hby hzs hzc B g n c l hown (a.eval x) m news hx hm hB
  unfold Oper.wp execOp
  simp only [ho, resolve, invoke, builtin, Sem.run_bind, Sem.run_pure, Result.andThen_ok, List.map_toArray, List.map_cons, List.map_nil, hs, hr]
  exact hK _ _ (h g' c' w' h2 h3 h4)

theorem step_append_bytes {W : World} {ops : Array Oper} {o : Oper} {a : Act} {K : Act → World → Prop} {Q : Exit → Act → World → Prop} {E : Prop} (hgd : o.guard = none) (s x : Operand) (t tx : TypeId)
    (ho : o.op = .call { callee := .builtin .append, args := #[s, x], argTypes := #[t, tx] })
    (e : TypeId) (z : Value) (ht : P.underlying t = some (.slice e)) (hinfo : (P.info? e).map (fun i => (i.zero, i.size, i.bytes)) = some (some z, 1, 1)) (hzs : z.cells.size = 1) (hzc : z.oneCell' = true)
    (B g n c : Nat) (l : List Nat) (hs : a.eval s = .slice (some ⟨g, 0, none⟩) n c) (hown : Bo W B g n c l)
    (m : Nat) (news : List Nat) (hx : Src P 1 tx (a.eval x) m (bc news) W) (hm : n + m ≤ 1099511627776) (hB : B ≤ W.heap.size)
    (h : ∀ g' c' w', Bo w' B g' (n + m) c' (l ++ news) → W.grownBy w' (some g) → (g' = g ∨ g' = W.heap.size) → K (a.put o.dst (.slice (some ⟨g', 0, none⟩) (n + m) c')) w') :
    if Region.wanted o (yielded ops a.tmps) = true then Oper.wp P o a W K Q else E := by
  obtain ⟨i, hi, hz, hsize, hby⟩ := info_parts hinfo
  have hw : Region.wanted o (yielded ops a.tmps) = true := by simp [Region.wanted, hgd]
  rw [if_pos hw]
  obtain ⟨g', c', w', hr, h2, h3, h4⟩ := run_append_bytes (P := P) W t tx o.type e i z ht hi hz hsize hby hzs hzc B g n c l hown (a.eval x) m news hx hm hB
  unfold Oper.wp execOp
  simp only [ho, resolve, invoke, builtin, Sem.run_bind, Sem.run_pure, Result.andThen_ok, List.map_toArray, List.map_cons, List.map_nil, hs, hr]
  exact h g' c' w' h2 h3 h4

/-- 'string(b)'. -/
theorem conv_string {w : World} {B g n c : Nat} {l : List Nat} (h : Bo w B g n c l) (src dst e : TypeId) (hs : P.underlying src = some (.slice e)) (he : P.underlying e = some (.int .u8)) (hd : P.underlying dst = some .string) :
    (convert src dst (.slice (some ⟨g, 0, none⟩) n c)).run P w = .ok (.string (txt l)) w := by
  rw [← strOfNums_txt]
  refine run_convert_bytes_arg w src e hs he g 0 n c (l.map Int.ofNat) (by simp; exact h.1) (fun i hi => ?_) dst hd
  rw [Nat.zero_add]
  have hl : i < l.length := by rw [h.1]; exact hi
  refine h.cells i _ ?_
  simp [bc, List.getElem?_eq_getElem hl, List.getD]
/-- '[]byte(s)'. -/
theorem conv_bytes (w : World) (src dst e : TypeId) (s : ByteArray) (hs : P.underlying src = some .string) (hd : P.underlying dst = some (.slice e)) (he : P.underlying e = some (.int .u8)) (hm : s.size ≤ maxLen) (B : Nat) (hB : B ≤ w.heap.size) :
    ∃ (v : World) (c : Nat), (convert src dst (.string s)).run P w = .ok (.slice (some ⟨w.heap.size, 0, none⟩) s.size c) v ∧ Bo v B w.heap.size s.size c (nums s) ∧ Below w.heap.size w v := by
  refine ⟨_, _, run_bytes_of_string w src dst e s hs hd he, ⟨nums_len s, hB, by simp, grownCap_ge _ _ _ _, grownCap_le_maxLen w _ _ e hm, fun j hj => ?_, fun j u hu => ?_⟩, (Below.refl w.heap.size w).drew.alloc (Nat.le_refl _) _⟩
  · have hsz : (bytesRow s (grownCap w s.size 0 e)).size = grownCap w s.size 0 e := by
      have := grownCap_ge w s.size 0 e
      have hs' : s.data.size = s.size := rfl
      simp [bytesRow]; omega
    have e1 := World.cell?_alloc_mark w.drew (bytesRow s (grownCap w s.size 0 e)) e ((bytesRow s (grownCap w s.size 0 e)).size, (bytesRow s (grownCap w s.size 0 e)).size + 1) j
    have e2 := World.frozen?_alloc_mark w.drew (bytesRow s (grownCap w s.size 0 e)) e (bytesRow s (grownCap w s.size 0 e)).size ((bytesRow s (grownCap w s.size 0 e)).size + 1) j
    have e3 : w.drew.heap.size = w.heap.size := rfl
    rw [e3] at e1 e2
    rw [e1, e2]
    constructor
    · rw [Array.getElem?_eq_getElem (by rw [hsz]; exact hj)]; rfl
    · rw [hsz]; simp; omega
  · have e1 := World.cell?_alloc_mark w.drew (bytesRow s (grownCap w s.size 0 e)) e ((bytesRow s (grownCap w s.size 0 e)).size, (bytesRow s (grownCap w s.size 0 e)).size + 1) j
    have e3 : w.drew.heap.size = w.heap.size := rfl
    rw [e3] at e1
    rw [e1]
    have hj := (List.getElem?_eq_some_iff.1 hu).1
    rw [bc_len, nums_len] at hj
    have hj' : j < s.data.size := hj
    rw [bytesRow_at s _ j hj', ← hu]
    simp [bc, nums, Array.getElem?_eq_getElem hj']
end
end Go.Proofs.Ytbkacmklgkgamaa
