/- Walk: the journal of lines, by the program. Conditions: there are at most 2^20 lines, each at most 2^20 bytes long; the library's powers of ten hold what the program lays. -/
import Derived.Test.YthgdikdcbkhgjaaDoorJp
import Derived.Test.YthgdikdcbkhgjaaDoorApp
import Derived.Shelf.Strings.Builder1
namespace Go.Proofs.YthgdikdcbkhgjaaDoor
open Go.RowKit Go.Shelf

theorem wsLays : Lays.n166 Tryd.prog Tryd.lays156_ren := { Tryd.lays156 with }
theorem WriteString_any (B b : Nat) (bs : List Value) (s : ByteArray) (w : World) (h : Lib.IsBuilder 58 5 B b bs w) (hlen : bs.length + s.size ≤ 140737488355328) (hBw : B ≤ w.heap.size) :
    Calls Tryd.prog 36 #[.pointer (some ⟨b, 0, none⟩), .string s] w fun e w' => e = .returned (.tuple #[.int .i64 s.size, .nilIface]) ∧ (Lib.BuilderAt 58 5 B b (.pointer (some ⟨b, 0, none⟩)) (bs ++ Lib.strCells s) w' ∧ Below B w w') :=
  Any.Builder_WriteString wsLays Tryd.Builder_Extra_156 B b bs s w h hlen hBw
theorem builder_below {T e : TypeId} {B b : Nat} {p : Value} {bs : List Value} {w w' : World} (h : Lib.BuilderAt T e B b p bs w) (hb : Below w.heap.size w w') : Lib.BuilderAt T e B b p bs w' := by
  have hlt := h.lt
  obtain ⟨hB, v, hbk, hown, hne⟩ := h
  exact ⟨hB, v, (hb.block b hlt).trans hbk, own_below hown hb, hne⟩
theorem isBuilder_below {T e : TypeId} {B b : Nat} {bs : List Value} {w w' : World} (h : Lib.IsBuilder T e B b bs w) (hb : Below w.heap.size w w') : Lib.IsBuilder T e B b bs w' := by
  rcases h with h | h
  · exact .inl (builder_below h hb)
  · exact .inr (builder_below h hb)
theorem cells_snoc (a e : ByteArray) : Lib.byteCells a.data.toList ++ Lib.strCells e = Lib.byteCells (a ++ e).data.toList := by
  rw [Lib.strCells_eq]
  unfold Lib.byteCells
  rw [← List.map_append]
  congr 1
theorem bytes_back (s : ByteArray) : (⟨s.data.toList.toArray⟩ : ByteArray) = s := rfl
theorem builderInfo : (Tryd.prog.info? 58).map (·.size) = some 2 := by kernel_rfl
set_option maxRecDepth 100000 in
set_option maxHeartbeats 8000000 in
theorem implJo_any (A : Option Addr) (n c : Nat) (L : List ByteArray) (w : World) (hn : n ≤ 1048576) (hs : ∀ x ∈ L, x.size ≤ 1048576) (hA : Rd w w.heap.size 1 A n (L.map Value.string)) (htab : Lib.TabIs Tryd.prog w "internal/strconv.uint64pow10" .u64 Lib.pow10Tab) :
    Calls Tryd.prog 17 #[.slice A n c] w fun e w' => JO L e ∧ Below w.heap.size w w' := by
  have hl : L.length = n := by have := hA.1; simpa using this
  have HL := Lib.hid hl
  have HA := Lib.hid hA
  have HS := Lib.hid hs
  have KT := Lib.hid (Lib.tabBelow_of_tabIs htab)
  clear hl hA hs htab
  go_enter Tryd.func17, Tryd.ntmps17
  go_wp2_with (first
    | (refine wpList_store_blk rfl _ _ _ rfl w.heap.size 0 rfl _ rfl [.pointer none, .slice none 0 0] rfl 58 #[.pointer none, .slice none 0 0] #[.pointer none, .slice none 0 0] (Blk.new _ _ _) (by kernel_rfl) (by simp) (by simp [Value.oneCell']) rfl ?_; intro w2 k2 g2
       have B2 := Lib.hid (below_boxed (Below.refl w.heap.size w) (Nat.le_refl _) g2)
       have I2 : Hid (Lib.IsBuilder 58 5 w.heap.size w.heap.size [] w2) := .inl ⟨Nat.le_refl _, .slice none 0 0, k2, World.ownsRow_nil _ _ _ _, by simp [Value.ownBlock]⟩
       clear k2 g2)
    | fail)
  go_loopw [5, 11] (fun sc si wr => ∃ k m : Nat, sc = .int .i64 (m : Int) ∧ si = .int .i64 (k : Int) ∧ k ≤ n ∧ m < 65003 ∧ Hid (m = cks 0 (L.take k)) ∧ Hid (∀ x ∈ L.take k, noNl x) ∧ Hid ((jrn 0 (L.take k)).size ≤ 16000) ∧ Hid (Lib.IsBuilder 58 5 w.heap.size w.heap.size (Lib.byteCells (jrn 0 (L.take k)).data.toList) wr) ∧ Below w.heap.size w wr) (fun _ si _ => n - (intOf si).toNat)
  case atStart => exact ⟨0, 0, rfl, rfl, Nat.zero_le _, by omega, rfl, fun x hx => by simp at hx, by show 0 ≤ 16000; omega, I2.out, B2.out⟩
  case round =>
    clear I2 B2
    obtain ⟨k, m, rfl, rfl, hk, hm, HM, HN, HZ, HI, hb⟩ := hrel
    have HB := Lib.hid hb
    have hsz := hb.size
    clear hb
    by_cases hlt : k < n
    · obtain ⟨b, off, rfl, hbb, hc⟩ := HA.out.2 (by omega)
      obtain ⟨x, hx⟩ : ∃ x, L[k]? = some x := ⟨_, List.getElem?_eq_getElem (by rw [HL.out]; exact hlt)⟩
      have cX : wr.cell? ⟨b, off + k, none⟩ = some (.string x) := (HB.out.cell (p := ⟨b, off + k, none⟩) hbb).trans (hc _ _ (by rw [List.getElem?_map, hx]; rfl))
      have hxm := List.mem_of_getElem? hx
      have hxs := HS.out x hxm
      have htk : L.take (k + 1) = L.take k ++ [x] := by rw [List.take_add_one, hx]; rfl
      have hkn : (k : Int) < (n : Int) := by omega
      have CN := Lib.hid (Tryd.strings_Contains_one x 10 wr)
      by_cases hnl : 0 ≤ Lib.indexByte x.data.toList 10
      · have HNO : Hid (¬ jok L) := by
          obtain ⟨o, ho⟩ : ∃ o : Nat, Lib.indexByte x.data.toList 10 = o := ⟨(Lib.indexByte x.data.toList 10).toNat, by omega⟩
          exact not_jok_nl hxm (Lib.indexByte_some ho).1
        have hd : decide (0 ≤ Lib.indexByte x.data.toList 10) = true := by simpa using hnl
        rw [hd] at CN
        clear hc hx htk hnl hd
        go_wp2_with fail
        refine CN.out.mono ?_
        rintro e w5 ⟨rfl, h5⟩
        obtain rfl := h5.symm
        go_wp2
        go_ret2
        exact ⟨.inr ⟨HNO.out, rfl⟩, HB.out⟩
      · have HNN : Hid (noNl x) := fun j => by
          have h1 := Lib.indexByte_ge x.data.toList 10
          exact Lib.indexByte_none (by omega) j
        have hd : decide (0 ≤ Lib.indexByte x.data.toList 10) = false := by simpa using hnl
        rw [hd] at CN
        have hm' := chk_lt hm x.data.toList
        have hds := dec_size _ hm'
        have CK := CheckOf_any m x wr (by unfold maxLen; omega) hm
        have hEJ : jrn 0 (L.take (k + 1)) = jrn 0 (L.take k) ++ (dec (chk m x.data.toList) ++ ⟨#[32]⟩ ++ x ++ ⟨#[10]⟩) := by rw [htk, jrn_snoc, ← HM.out]; rfl
        have hEM : cks 0 (L.take (k + 1)) = chk m x.data.toList := by rw [htk, cks_snoc, ← HM.out]
        have hNX : ∀ y ∈ L.take (k + 1), noNl y := by
          intro y hy
          rw [htk, List.mem_append] at hy
          rcases hy with hy | hy
          · exact HN.out y hy
          · simp at hy; subst hy; exact HNN.out
        have HNX := Lib.hid hNX
        obtain ⟨m', em⟩ : ∃ m', chk m x.data.toList = m' := ⟨_, rfl⟩
        rw [em] at hm' hds CK hEJ hEM
        have CKH := Lib.hid CK
        have DC := fun wq (hq : Below w.heap.size w wq) => Decimal_any m' wq (by omega) (KT.out wq hq)
        obtain ⟨d, ed⟩ : ∃ d, dec m' = d := ⟨_, rfl⟩
        rw [ed] at hds DC hEJ
        have DCH := Lib.hid DC
        have HEJ := Lib.hid hEJ
        have HEM := Lib.hid hEM
        have e1 : (⟨#[32]⟩ : ByteArray).size = 1 := rfl
        have e2 : (⟨#[10]⟩ : ByteArray).size = 1 := rfl
        have g1 : ¬ 9223372036854775807 < d.size + 1 := by omega
        have g2 : ¬ 9223372036854775807 < d.size + 1 + x.size := by omega
        have g3 : ¬ 9223372036854775807 < d.size + 1 + x.size + 1 := by omega
        obtain ⟨J, eJ⟩ : ∃ J, jrn 0 (L.take k) = J := ⟨_, rfl⟩
        rw [eJ] at HEJ HI HZ
        have hJz := HZ.out
        clear hc hx htk hnl hd CK hEJ hEM em ed DC hNX eJ hxm
        go_wp2_with fail
        refine CN.out.mono ?_
        rintro e w5 ⟨rfl, h5⟩
        obtain rfl := h5.symm
        go_wp2_with fail
        refine CKH.out.mono ?_
        rintro e w5 ⟨rfl, h5⟩
        obtain rfl := h5.symm
        go_wp2_with fail
        refine (DCH.out _ HB.out).mono ?_
        rintro e w6 ⟨rfl, hb6⟩
        have B6 := Lib.hid (HB.out.trans (hb6.mono hsz))
        have z6 := B6.out.size
        have I6 := Lib.hid (isBuilder_below HI.out hb6)
        clear hb6
        obtain ⟨E, eE⟩ : ∃ E, d ++ ⟨#[32]⟩ ++ x ++ ⟨#[10]⟩ = E := ⟨_, rfl⟩
        have hEs : E.size = d.size + 1 + x.size + 1 := by rw [← eE]; simp only [ByteArray.size_append]; omega
        have WC := WriteString_any w.heap.size w.heap.size (Lib.byteCells J.data.toList) E w6 I6.out (by rw [← Lib.strCells_eq, Lib.strCells_length]; omega) z6
        rw [cells_snoc] at WC
        rw [eE] at HEJ
        have WCH := Lib.hid WC
        clear WC
        go_wp2_with fail
        refine WCH.out.mono ?_
        rintro e w7 ⟨rfl, h7, hb7⟩
        have B7 := Lib.hid (B6.out.trans hb7)
        have I7 : Hid (Lib.IsBuilder 58 5 w.heap.size w.heap.size (Lib.byteCells (J ++ E).data.toList) w7) := .inr h7
        have LN := Tryd.Builder_Len w.heap.size w.heap.size _ w7 I7.out
        rw [← Lib.strCells_eq, Lib.strCells_length, ← HEJ.out] at LN
        rw [← HEJ.out] at I7
        have LNH := Lib.hid LN
        have HNOL : Hid (16000 < (jrn 0 (L.take (k + 1))).size → ¬ jok L) := not_jok_len
        obtain ⟨z, ez⟩ : ∃ z, (jrn 0 (L.take (k + 1))).size = z := ⟨_, rfl⟩
        have EZ := Lib.hid ez
        rw [ez] at LNH HNOL
        have hzb : z ≤ 3000000 := by rw [← ez, HEJ.out, ByteArray.size_append]; omega
        clear h7 hb7 LN ez
        by_cases h16 : 16000 < z
        · go_wp2_with fail
          refine LNH.out.mono ?_
          rintro e w8 ⟨rfl, h8⟩
          obtain rfl := h8.symm
          go_wp2
          go_ret2
          exact ⟨.inr ⟨HNOL.out h16, rfl⟩, B7.out⟩
        · have h16' : z ≤ 16000 := by omega
          go_wp2_with fail
          refine LNH.out.mono ?_
          rintro e w8 ⟨rfl, h8⟩
          obtain rfl := h8.symm
          go_wp2
          go_roundw
          case rel => exact ⟨k + 1, m', rfl, by go_num, by omega, hm', Lib.hid HEM.out.symm, HNX, by unfold Hid; rw [EZ.out]; exact h16', I7, B7.out⟩
          case measure => simp [intOf]; omega
    · obtain rfl : k = n := by omega
      have e1 : L.take k = L := List.take_of_length_le (by rw [HL.out]; exact Nat.le_refl _)
      rw [e1] at HN HZ HI
      have SC := Lib.hid (Tryd.Builder_String_any w.heap.size w.heap.size _ wr HI.out hsz)
      have HJO : Hid (JO L (.returned (.tuple #[.string (jrn 0 L), .bool true]))) := .inl ⟨⟨HN.out, HZ.out⟩, rfl⟩
      clear e1 HN HZ HI
      go_wp2_with fail
      refine SC.out.mono ?_
      rintro e w1 ⟨rfl, hb⟩
      have HB2 := Lib.hid (HB.out.trans hb)
      clear hb
      go_wp2
      go_ret2
      exact ⟨HJO.out, HB2.out⟩
end Go.Proofs.YthgdikdcbkhgjaaDoor
