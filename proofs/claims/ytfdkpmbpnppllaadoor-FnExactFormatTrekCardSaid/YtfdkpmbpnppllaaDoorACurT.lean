/- Facts about the types of the program that is given, each by computing. -/
import Derived.Test.YtfdkpmbpnppllaaDoorAData
namespace Go.Abs
open Go.RowKit Go.Proofs
set_option linter.unusedVariables false
set_option linter.unusedSimpArgs false
set_option maxRecDepth 100000

theorem agg_uint8 : aggT Tryd.prog 5 = some false := by kernel_rfl
theorem sz_uint8 : szT Tryd.prog 5 = some 1 := by kernel_rfl
theorem by_uint8 : (Tryd.prog.info? 5).map (·.bytes) = some 1 := by kernel_rfl
theorem zv_uint8 : zeroVals Tryd.prog 5 = some [.int .u8 0] := by kernel_rfl
theorem za_uint8 : zeroAtoms Tryd.prog 5 = some [.v (.int .u8 0)] := by kernel_rfl
attribute [go_sem] za_uint8 sz_uint8
theorem ld_uint8 {m : Mem} {cs : List Value} {K : AV → Prop} : onR (loadS Tryd.prog 5 m (.at (.pi cs))) K = (0 < cs.length ∧ evK (todo (cs.getD 0 undef)) fun u => K (.at (.v u))) := load_pi1 agg_uint8
theorem lp_uint8 {κ ver sz j off : Nat} {m : Mem} {K : AV → Prop} : loadK Tryd.prog 5 m (.at (.pa κ ver sz j off)) K = (off < sz ∧ rowAt (todo (m κ)) ver sz j fun r => evK (todo (r.getD off undef)) fun u => K (.at (.v u))) := loadK_paA agg_uint8 sz_uint8
attribute [go_sem] ld_uint8 lp_uint8
theorem lb_uint8 {m : Mem} {κ ver off : Nat} {K : AV → Prop} : onR (loadS Tryd.prog 5 m (.at (.bx κ ver off))) K = boxAt (todo (m κ)) ver fun cells => onO (todo cells[off]?) fun a => K (.at a) := load_bxK1 agg_uint8
theorem sb_uint8 {m : Mem} {κ ver off : Nat} {X : AV} {K : Mem → Prop} : onR (storeS Tryd.prog 5 m (.at (.bx κ ver off)) X) K = boxAt (todo (m κ)) ver fun cells => onO (todo (atomsOf X)) fun new => new.length = 1 ∧ off + 1 ≤ cells.length ∧ evK (todo (splice cells off new)) fun cs => K (upd m κ (.box ver cs)) := store_bxK sz_uint8
theorem sp_uint8 {m : Mem} {κ ver sz j off : Nat} {X : AV} {K : Mem → Prop} : onR (storeS Tryd.prog 5 m (.at (.pa κ ver sz j off)) X) K = arrAt (todo (m κ)) ver sz fun rows => onO (todo ((atomsOf X).bind valsOf)) fun us => us.length = 1 ∧ (j < rows.length ∧ off + 1 ≤ sz) ∧ evK (todo (rows.set j (splice (rows.getD j []) off us))) fun rs => K (upd m κ (.arr ver sz rs)) := store_paK sz_uint8
attribute [go_sem] lb_uint8 sb_uint8 sp_uint8
theorem und_uint8S : Tryd.prog.underlying 89 = some (.slice 5) := Tryd.underlying89
theorem agg_uint8S : aggT Tryd.prog 89 = some false := by kernel_rfl
theorem sz_uint8S : szT Tryd.prog 89 = some 1 := by kernel_rfl
theorem ix_uint8S {rows : List (List Value)} {k : IntKind} {i : Int} {K : AV → Prop} : onR (indexAddrS Tryd.prog 89 (.at (.im 1 rows)) (.at (.v (.int k i)))) K = ((0 ≤ i ∧ i < (rows.length : Int)) ∧ ∀ r, rows[i.toNat]? = some r → K (.at (.pi r))) := idx_im und_uint8S sz_uint8
theorem io_uint8S {κ ver n : Nat} {k : IntKind} {i : Int} {K : AV → Prop} : onR (indexAddrS Tryd.prog 89 (.at (.ow κ ver 1 n)) (.at (.v (.int k i)))) K = ((0 ≤ i ∧ i < (n : Int)) ∧ evK (todo i.toNat) fun j => K (.at (.pa κ ver 1 j 0))) := idx_ow und_uint8S sz_uint8
theorem ln_uint8S {sz : Nat} {rows : List (List Value)} {K : Value → Prop} : onO (lenS Tryd.prog 89 (.at (.im sz rows))) K = K (.int .i64 rows.length) := len_im und_uint8S
theorem lo_uint8S {κ ver sz n : Nat} {K : Value → Prop} : onO (lenS Tryd.prog 89 (.at (.ow κ ver sz n))) K = K (.int .i64 n) := len_ow und_uint8S
theorem lz_uint8S {K : Value → Prop} : onO (lenS Tryd.prog 89 (.at .nil)) K = K (.int .i64 0) := len_nil und_uint8S
theorem si_uint8S : siOf Tryd.prog 89 = some ⟨5, 1, 1, [.int .u8 0]⟩ := by kernel_rfl
theorem ci_uint8S {nx : Nat} {q : Qm} {t : Nat → AV} {m : Mem} {rows : List (List Value)} {lo hi : Option Operand} {K : AV → Mem → Prop} : onM (sliceS Tryd.prog nx q 89 ⟨t, m⟩ (.at (.im 1 rows)) lo hi none) K = onO (todo (boundS ⟨t, m⟩ lo 0)) fun l => onO (todo (boundS ⟨t, m⟩ hi rows.length)) fun h => (0 ≤ l ∧ l ≤ h ∧ h ≤ (rows.length : Int)) ∧ evK (todo ((rows.drop l.toNat).take (h.toNat - l.toNat))) fun rs => K (.at (.im 1 rs)) m := cut_im_k und_uint8S sz_uint8
theorem cn_uint8S {nx : Nat} {q : Qm} {t : Nat → AV} {m : Mem} {lo hi : Option Operand} {K : AV → Mem → Prop} : onM (sliceS Tryd.prog nx q 89 ⟨t, m⟩ (.at .nil) lo hi none) K = onO (todo (boundS ⟨t, m⟩ lo 0)) fun l => onO (todo (boundS ⟨t, m⟩ hi 0)) fun h => (l = 0 ∧ h = 0) ∧ K (.at .nil) m := cut_nil_k und_uint8S sz_uint8
attribute [go_sem] ix_uint8S io_uint8S ln_uint8S lo_uint8S lz_uint8S si_uint8S ci_uint8S cn_uint8S
attribute [go_sem] sz_uint8S
theorem lb_uint8S {m : Mem} {κ ver off : Nat} {K : AV → Prop} : onR (loadS Tryd.prog 89 m (.at (.bx κ ver off))) K = boxAt (todo (m κ)) ver fun cells => onO (todo cells[off]?) fun a => K (.at a) := load_bxK1 agg_uint8S
theorem sb_uint8S {m : Mem} {κ ver off : Nat} {X : AV} {K : Mem → Prop} : onR (storeS Tryd.prog 89 m (.at (.bx κ ver off)) X) K = boxAt (todo (m κ)) ver fun cells => onO (todo (atomsOf X)) fun new => new.length = 1 ∧ off + 1 ≤ cells.length ∧ evK (todo (splice cells off new)) fun cs => K (upd m κ (.box ver cs)) := store_bxK sz_uint8S
theorem sp_uint8S {m : Mem} {κ ver sz j off : Nat} {X : AV} {K : Mem → Prop} : onR (storeS Tryd.prog 89 m (.at (.pa κ ver sz j off)) X) K = arrAt (todo (m κ)) ver sz fun rows => onO (todo ((atomsOf X).bind valsOf)) fun us => us.length = 1 ∧ (j < rows.length ∧ off + 1 ≤ sz) ∧ evK (todo (rows.set j (splice (rows.getD j []) off us))) fun rs => K (upd m κ (.arr ver sz rs)) := store_paK sz_uint8S
attribute [go_sem] lb_uint8S sb_uint8S sp_uint8S
theorem cv_uint8 {n : Int} {k : IntKind} {K : Value → Prop} : onO (convS Tryd.prog 5 3 (.at (.v (.int k n)))) K = K (.int .i64 (IntKind.wrap .i64 n)) := conv_ii Tryd.underlying5 Tryd.underlying3
attribute [go_sem] cv_uint8
end Go.Abs
