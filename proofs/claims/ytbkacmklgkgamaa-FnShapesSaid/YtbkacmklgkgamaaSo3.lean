/- Walk: the bytes of a shape, by the program. Conditions: the shape is valid. -/
import Derived.Test.YtbkacmklgkgamaaSo2
namespace Go.Proofs.Ytbkacmklgkgamaa
open Go.RowKit

theorem bz {B : Nat} {a w' : World} {o : Obj} (h : Below B (a.alloc o) w') : a.heap.size + 1 ≤ w'.heap.size := by
  have := h.size
  simpa using this
set_option maxRecDepth 100000 in
set_option maxHeartbeats 4000000 in
theorem store_any (nm : ByteArray) (W H N : Nat) (A : Option Addr) (c : Nat) (cs : List Bool) (w : World) (hn : nm.size ≤ 8) (hW : W ≤ 16) (hH : H ≤ 16) (hN : N ≤ 256) (hl : cs.length = N) (hA : Rd w w.heap.size 1 A N (cs.map bv)) :
    Calls Try.prog 29 #[.agg #[.string nm, .int .i64 W, .int .i64 H, .slice A N c]] w fun e w' => e = .returned (.string (txt (wholeL nm W H cs))) ∧ Below w.heap.size w w' := by
  have HL := Lib.hid hl
  have hpl : (pack cs).length ≤ 1026 := by have := pack_len cs; omega
  have HPL := Lib.hid hpl
  have hkb : Blk (w.alloc (.cells #[.string nm, .int .i64 W, .int .i64 H, .slice A N c] 33)) w.heap.size 33 #[.string nm, .int .i64 W, .int .i64 H, .slice A N c] := Blk.new w _ _
  have hwb : Below w.heap.size w (w.alloc (.cells #[.string nm, .int .i64 W, .int .i64 H, .slice A N c] 33)) := (Below.refl _ _).alloc (Nat.le_refl _) _
  have K0 : Hid (∀ w', Below (w.heap.size + 1) (w.alloc (.cells #[.string nm, .int .i64 W, .int .i64 H, .slice A N c] 33)) w' → w'.cell? ⟨w.heap.size, 0, none⟩ = some (.string nm) ∧ w'.cell? ⟨w.heap.size, 1, none⟩ = some (.int .i64 W) ∧ w'.cell? ⟨w.heap.size, 2, none⟩ = some (.int .i64 H) ∧ w'.cell? ⟨w.heap.size, 3, none⟩ = some (.slice A N c)) :=
    fun w' h => ⟨(h.cell (Nat.lt_succ_self _)).trans (hkb.cell 0), (h.cell (Nat.lt_succ_self _)).trans (hkb.cell 1), (h.cell (Nat.lt_succ_self _)).trans (hkb.cell 2), (h.cell (Nat.lt_succ_self _)).trans (hkb.cell 3)⟩
  obtain ⟨v1, c1, CV0, bo1, hB1, hz1⟩ := conv_const (P := Try.prog) (w.alloc (.cells #[.string nm, .int .i64 W, .int .i64 H, .slice A N c] 33)) 22 5 Try.underlying22 Try.underlying5 #[.int .u8 83, .int .u8 72, .int .u8 80, .int .u8 49] [83, 72, 80, 49] rfl 4 rfl (by unfold maxLen; omega)
  simp only [World.size_alloc] at CV0 bo1 hB1 hz1
  have HWV : Hid (∀ w', Below (w.heap.size + 1) (w.alloc (.cells #[.string nm, .int .i64 W, .int .i64 H, .slice A N c] 33)) w' → Below w.heap.size w w') := fun w' h => hwb.trans (h.mono (by omega))
  have HA := Lib.hid (fun w' h => (hA.below (HWV.out w' h)))
  obtain ⟨d0, d1, d2, d3⟩ := K0.out v1 hB1
  have HBO1 := Lib.hid (bo1.alloc (.cells #[.int .u8 (nm.size : Int)] 5))
  have SR := Lib.hid (Src.fresh (P := Try.prog) (w := v1) (tx := 22) Try.underlying22 5 #[.int .u8 (nm.size : Int)] [nm.size] 1 rfl rfl v1.heap.size rfl)
  have hszA : w.heap.size + 1 ≤ (v1.alloc (.cells #[.int .u8 (nm.size : Int)] 5)).heap.size := by simp; omega
  have HB1 := Lib.hid (hB1.alloc (by omega) (.cells #[.int .u8 (nm.size : Int)] 5))
  have SRT := fun w' => Src.text (P := Try.prog) (w := w') (tx := 9) Try.underlying9 nm
  have HSRT := Lib.hid SRT
  clear bo1 hB1 hA hl hpl hz1 hkb hwb SRT
  go_enter Try.func29, Try.ntmps29
  go_wp2_with (first
    | (at_builtin; refine wpList_append_bytes (W := v1.alloc (.cells #[.int .u8 (nm.size : Int)] 5)) rfl _ _ _ _ rfl 5 (.int .u8 0) Try.underlying22 byteInfo rfl rfl (w.heap.size + 1) (w.heap.size + 1) 4 c1 _ rfl HBO1.out 1 [nm.size] SR.out (by omega) hszA ?_; intro g2 c2 w2 ho2 hg2 hd2
       have B2 := Lib.hid (HB1.out.grown hg2 hszA (fun j e => by injection e with e; omega))
       have O2 := Lib.hid ho2
       obtain ⟨d0, d1, d2, d3⟩ := K0.out w2 B2.out
       clear ho2 hg2 hd2)
    | (at_builtin; refine wpList_append_bytes (W := w2) rfl _ _ _ _ rfl 5 (.int .u8 0) Try.underlying22 byteInfo rfl rfl (w.heap.size + 1) g2 (4 + 1) c2 _ rfl O2.out nm.size (nums nm) (HSRT.out w2) (by omega) (bz B2.out) ?_; intro g4 c4 w4 ho4 hg4 hd4
       have B4 := Lib.hid (B2.out.grown hg4 (bz B2.out) (fun j e => by injection e with e; have := O2.out.ge; omega))
       obtain ⟨d0, d1, d2, d3⟩ := K0.out w4 B4.out
       have O4 := Lib.hid (ho4.alloc (.cells #[.int .u8 (W : Int), .int .u8 (H : Int)] 5))
       have B4A := Lib.hid (B4.out.alloc (bz B4.out) (.cells #[.int .u8 (W : Int), .int .u8 (H : Int)] 5))
       have S4 := Lib.hid (Src.fresh (P := Try.prog) (w := w4) (tx := 22) Try.underlying22 5 #[.int .u8 (W : Int), .int .u8 (H : Int)] [W, H] 2 rfl rfl w4.heap.size rfl)
       clear ho4 hg4 hd4)
    | (at_builtin; refine wpList_append_bytes (W := w4.alloc (.cells #[.int .u8 (W : Int), .int .u8 (H : Int)] 5)) rfl _ _ _ _ rfl 5 (.int .u8 0) Try.underlying22 byteInfo rfl rfl (w.heap.size + 1) g4 (4 + 1 + nm.size) c4 _ rfl O4.out 2 [W, H] S4.out (by omega) (bz B4A.out) ?_; intro g5 c5 w5 ho5 hg5 hd5
       have B5 := Lib.hid (B4A.out.grown hg5 (bz B4A.out) (fun j e => by injection e with e; have := O4.out.ge; omega))
       have O5 := Lib.hid ho5
       obtain ⟨d0, d1, d2, d3⟩ := K0.out w5 B5.out
       clear ho5 hg5 hd5)
    | fail)
  refine (pack_any N A c w5.heap.size cs w5 hN HL.out (Nat.le_refl _) ((HA.out w5 B5.out).more (by have := bz B5.out; omega))).mono ?_
  rintro e w6 ⟨gp, cp, rfl, hop, hb6⟩
  have B6 := Lib.hid (B5.out.trans (hb6.mono (bz B5.out)))
  have O6 := Lib.hid (O5.out.below hb6)
  obtain ⟨pk, hpk⟩ : ∃ pk, pack cs = pk := ⟨_, rfl⟩
  have HPK := Lib.hid hpk
  rw [hpk] at HPL hop ⊢
  have hpl := HPL.out
  have OP := Lib.hid hop
  have hgp : w5.heap.size ≤ gp := hop.ge
  have hg5 := O5.out.lt
  clear hb6 hpk hop
  go_wp2_with fail
  refine (twoBytes_any g5 (4 + 1 + nm.size + 2) c5 (w.heap.size + 1) pk.length _ w6 (by omega) (by omega) (bz B6.out) O6.out).mono ?_
  rintro e w7 ⟨g7, c7, rfl, ho7, hg7, hd7⟩
  have B7 := Lib.hid (B6.out.grown hg7 (bz B6.out) (fun j e => by injection e with e; have := O6.out.ge; omega))
  have O7 := Lib.hid ho7
  have OP7 := OP.out.grown hg7 (by omega)
  have SP := Lib.hid (Src.bytes (P := Try.prog) (w := w7) (tx := 22) Try.underlying22 gp pk.length cp pk rfl OP7.cells)
  clear ho7 hg7 hd7 OP7
  go_wp2_with (first
    | (at_builtin; refine wpList_append_bytes (W := w7) rfl _ _ _ _ rfl 5 (.int .u8 0) Try.underlying22 byteInfo rfl rfl (w.heap.size + 1) g7 (4 + 1 + nm.size + 2 + 2) c7 _ rfl O7.out pk.length pk SP.out (by omega) (bz B7.out) ?_; intro g8 c8 w8 ho8 hg8 hd8
       have B8 := Lib.hid (B7.out.grown hg8 (bz B7.out) (fun j e => by injection e with e; have := O7.out.ge; omega))
       obtain ⟨bd, hbd⟩ : ∃ bd, [83, 72, 80, 49] ++ [nm.size] ++ nums nm ++ [W, H] ++ [pk.length % 256, pk.length / 256] ++ pk = bd := ⟨_, rfl⟩
       rw [hbd] at ho8
       have HBD := Lib.hid hbd
       have O8 := Lib.hid ho8
       have CV8 := conv_string (P := Try.prog) ho8 22 9 5 Try.underlying22 Try.underlying5 Try.underlying9
       clear ho8 hg8 hd8 hbd)
    | fail)
  have hbl : bd.length = 4 + 1 + nm.size + 2 + 2 + pk.length := O8.out.len
  have hE : Hid (bd = bodyL nm W H cs) := by
    unfold Hid bodyL
    rw [HPK.out, ← HBD.out]
    simp
  have hts : (txt bd).size ≤ maxLen := by rw [txt_size]; unfold maxLen; omega
  refine (CheckOf_any 0 (txt bd) w8 hts (by omega)).mono ?_
  rintro e w9 ⟨rfl, h9⟩
  obtain rfl := h9.symm
  obtain ⟨kk, hkk⟩ : ∃ kk, chk 0 (txt bd).data.toList = kk := ⟨_, rfl⟩
  have hk1 : kk < 65003 := by rw [← hkk]; exact chkL_lt bd
  have HKK : Hid (chkL bd = kk) := hkk
  rw [hkk]
  clear hkk h9 hts CV8
  go_wp2_with fail
  refine (twoBytes_any g8 (4 + 1 + nm.size + 2 + 2 + pk.length) c8 (w.heap.size + 1) kk bd w8 (by omega) (by omega) (bz B8.out) O8.out).mono ?_
  rintro e wf ⟨gf, cf, rfl, hof, hgf, hdf⟩
  have BFF := Lib.hid (HWV.out _ (B8.out.grown hgf (bz B8.out) (fun j e => by injection e with e; have := O8.out.ge; omega)))
  obtain ⟨al, hal⟩ : ∃ al, bd ++ [kk % 256, kk / 256] = al := ⟨_, rfl⟩
  rw [hal] at hof
  have HAL := Lib.hid hal
  have CVF := conv_string (P := Try.prog) hof 22 9 5 Try.underlying22 Try.underlying5 Try.underlying9
  clear hof hgf hdf hal
  go_wp2
  go_ret
  refine ⟨?_, BFF.out⟩
  unfold wholeL
  rw [← hE.out, HKK.out, HAL.out]
  rfl
end Go.Proofs.Ytbkacmklgkgamaa
