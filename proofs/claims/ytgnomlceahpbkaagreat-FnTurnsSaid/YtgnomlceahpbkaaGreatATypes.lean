/- Facts about the types of the program that is given, each by computing. -/
import Derived.Test.YtgnomlceahpbkaaGreatALibC
import Derived.Test.YtgnomlceahpbkaaGreatProg
namespace Go.Abs
open Go.RowKit Go.Proofs
set_option linter.unusedVariables false
set_option linter.unusedSimpArgs false
set_option maxRecDepth 100000
theorem mixed : Tryz.prog.follows .mixedOrders = true := by kernel_rfl
theorem agg_int : aggT Tryz.prog 3 = some false := by kernel_rfl
theorem sz_int : szT Tryz.prog 3 = some 1 := by kernel_rfl
theorem by_int : (Tryz.prog.info? 3).map (·.bytes) = some 8 := by kernel_rfl
theorem zv_int : zeroVals Tryz.prog 3 = some [.int .i64 0] := by kernel_rfl
theorem za_int : zeroAtoms Tryz.prog 3 = some [.v (.int .i64 0)] := by kernel_rfl
attribute [go_sem] za_int sz_int
theorem ld_int {m : Mem} {cs : List Value} {K : AV → Prop} : onR (loadS Tryz.prog 3 m (.at (.pi cs))) K = (0 < cs.length ∧ evK (todo (cs.getD 0 undef)) fun u => K (.at (.v u))) := load_pi1 agg_int
theorem lp_int {κ ver sz j off : Nat} {m : Mem} {K : AV → Prop} : loadK Tryz.prog 3 m (.at (.pa κ ver sz j off)) K = (off < sz ∧ rowAt (todo (m κ)) ver sz j fun r => evK (todo (r.getD off undef)) fun u => K (.at (.v u))) := loadK_paA agg_int sz_int
attribute [go_sem] ld_int lp_int
theorem lb_int {m : Mem} {κ ver off : Nat} {K : AV → Prop} : onR (loadS Tryz.prog 3 m (.at (.bx κ ver off))) K = boxAt (todo (m κ)) ver fun cells => onO (todo cells[off]?) fun a => K (.at a) := load_bxK1 agg_int
theorem sb_int {m : Mem} {κ ver off : Nat} {X : AV} {K : Mem → Prop} : onR (storeS Tryz.prog 3 m (.at (.bx κ ver off)) X) K = boxAt (todo (m κ)) ver fun cells => onO (todo (atomsOf X)) fun new => new.length = 1 ∧ off + 1 ≤ cells.length ∧ evK (todo (splice cells off new)) fun cs => K (upd m κ (.box ver cs)) := store_bxK sz_int
theorem sp_int {m : Mem} {κ ver sz j off : Nat} {X : AV} {K : Mem → Prop} : onR (storeS Tryz.prog 3 m (.at (.pa κ ver sz j off)) X) K = arrAt (todo (m κ)) ver sz fun rows => onO (todo ((atomsOf X).bind valsOf)) fun us => us.length = 1 ∧ (j < rows.length ∧ off + 1 ≤ sz) ∧ evK (todo (rows.set j (splice (rows.getD j []) off us))) fun rs => K (upd m κ (.arr ver sz rs)) := store_paK sz_int
attribute [go_sem] lb_int sb_int sp_int
theorem agg_bool : aggT Tryz.prog 4 = some false := by kernel_rfl
theorem sz_bool : szT Tryz.prog 4 = some 1 := by kernel_rfl
theorem by_bool : (Tryz.prog.info? 4).map (·.bytes) = some 1 := by kernel_rfl
theorem zv_bool : zeroVals Tryz.prog 4 = some [.bool false] := by kernel_rfl
theorem za_bool : zeroAtoms Tryz.prog 4 = some [.v (.bool false)] := by kernel_rfl
attribute [go_sem] za_bool sz_bool
theorem ld_bool {m : Mem} {cs : List Value} {K : AV → Prop} : onR (loadS Tryz.prog 4 m (.at (.pi cs))) K = (0 < cs.length ∧ evK (todo (cs.getD 0 undef)) fun u => K (.at (.v u))) := load_pi1 agg_bool
theorem lp_bool {κ ver sz j off : Nat} {m : Mem} {K : AV → Prop} : loadK Tryz.prog 4 m (.at (.pa κ ver sz j off)) K = (off < sz ∧ rowAt (todo (m κ)) ver sz j fun r => evK (todo (r.getD off undef)) fun u => K (.at (.v u))) := loadK_paA agg_bool sz_bool
attribute [go_sem] ld_bool lp_bool
theorem lb_bool {m : Mem} {κ ver off : Nat} {K : AV → Prop} : onR (loadS Tryz.prog 4 m (.at (.bx κ ver off))) K = boxAt (todo (m κ)) ver fun cells => onO (todo cells[off]?) fun a => K (.at a) := load_bxK1 agg_bool
theorem sb_bool {m : Mem} {κ ver off : Nat} {X : AV} {K : Mem → Prop} : onR (storeS Tryz.prog 4 m (.at (.bx κ ver off)) X) K = boxAt (todo (m κ)) ver fun cells => onO (todo (atomsOf X)) fun new => new.length = 1 ∧ off + 1 ≤ cells.length ∧ evK (todo (splice cells off new)) fun cs => K (upd m κ (.box ver cs)) := store_bxK sz_bool
theorem sp_bool {m : Mem} {κ ver sz j off : Nat} {X : AV} {K : Mem → Prop} : onR (storeS Tryz.prog 4 m (.at (.pa κ ver sz j off)) X) K = arrAt (todo (m κ)) ver sz fun rows => onO (todo ((atomsOf X).bind valsOf)) fun us => us.length = 1 ∧ (j < rows.length ∧ off + 1 ≤ sz) ∧ evK (todo (rows.set j (splice (rows.getD j []) off us))) fun rs => K (upd m κ (.arr ver sz rs)) := store_paK sz_bool
attribute [go_sem] lb_bool sb_bool sp_bool
theorem und_bool : Tryz.prog.underlying 4 = some .bool := Tryz.underlying4
theorem beql {p q : Bool} {K : Value → Prop} : onR (binS Tryz.prog .eql 4 (.at (.v (.bool p))) (.at (.v (.bool q)))) K = K (.bool (p == q)) := bin_beql und_bool
theorem bneq {p q : Bool} {K : Value → Prop} : onR (binS Tryz.prog .neq 4 (.at (.v (.bool p))) (.at (.v (.bool q)))) K = K (.bool (!(p == q))) := bin_bneq und_bool
attribute [go_sem] beql bneq
theorem agg_string : aggT Tryz.prog 9 = some false := by kernel_rfl
theorem sz_string : szT Tryz.prog 9 = some 1 := by kernel_rfl
theorem by_string : (Tryz.prog.info? 9).map (·.bytes) = some 16 := by kernel_rfl
theorem zv_string : zeroVals Tryz.prog 9 = some [.string ByteArray.empty] := by kernel_rfl
theorem za_string : zeroAtoms Tryz.prog 9 = some [.v (.string ByteArray.empty)] := by kernel_rfl
attribute [go_sem] za_string sz_string
theorem ld_string {m : Mem} {cs : List Value} {K : AV → Prop} : onR (loadS Tryz.prog 9 m (.at (.pi cs))) K = (0 < cs.length ∧ evK (todo (cs.getD 0 undef)) fun u => K (.at (.v u))) := load_pi1 agg_string
theorem lp_string {κ ver sz j off : Nat} {m : Mem} {K : AV → Prop} : loadK Tryz.prog 9 m (.at (.pa κ ver sz j off)) K = (off < sz ∧ rowAt (todo (m κ)) ver sz j fun r => evK (todo (r.getD off undef)) fun u => K (.at (.v u))) := loadK_paA agg_string sz_string
attribute [go_sem] ld_string lp_string
theorem lb_string {m : Mem} {κ ver off : Nat} {K : AV → Prop} : onR (loadS Tryz.prog 9 m (.at (.bx κ ver off))) K = boxAt (todo (m κ)) ver fun cells => onO (todo cells[off]?) fun a => K (.at a) := load_bxK1 agg_string
theorem sb_string {m : Mem} {κ ver off : Nat} {X : AV} {K : Mem → Prop} : onR (storeS Tryz.prog 9 m (.at (.bx κ ver off)) X) K = boxAt (todo (m κ)) ver fun cells => onO (todo (atomsOf X)) fun new => new.length = 1 ∧ off + 1 ≤ cells.length ∧ evK (todo (splice cells off new)) fun cs => K (upd m κ (.box ver cs)) := store_bxK sz_string
theorem sp_string {m : Mem} {κ ver sz j off : Nat} {X : AV} {K : Mem → Prop} : onR (storeS Tryz.prog 9 m (.at (.pa κ ver sz j off)) X) K = arrAt (todo (m κ)) ver sz fun rows => onO (todo ((atomsOf X).bind valsOf)) fun us => us.length = 1 ∧ (j < rows.length ∧ off + 1 ≤ sz) ∧ evK (todo (rows.set j (splice (rows.getD j []) off us))) fun rs => K (upd m κ (.arr ver sz rs)) := store_paK sz_string
attribute [go_sem] lb_string sb_string sp_string
theorem und_intS : Tryz.prog.underlying 22 = some (.slice 3) := Tryz.underlying22
theorem agg_intS : aggT Tryz.prog 22 = some false := by kernel_rfl
theorem sz_intS : szT Tryz.prog 22 = some 1 := by kernel_rfl
theorem ix_intS {rows : List (List Value)} {k : IntKind} {i : Int} {K : AV → Prop} : onR (indexAddrS Tryz.prog 22 (.at (.im 1 rows)) (.at (.v (.int k i)))) K = ((0 ≤ i ∧ i < (rows.length : Int)) ∧ ∀ r, rows[i.toNat]? = some r → K (.at (.pi r))) := idx_im und_intS sz_int
theorem io_intS {κ ver n : Nat} {k : IntKind} {i : Int} {K : AV → Prop} : onR (indexAddrS Tryz.prog 22 (.at (.ow κ ver 1 n)) (.at (.v (.int k i)))) K = ((0 ≤ i ∧ i < (n : Int)) ∧ evK (todo i.toNat) fun j => K (.at (.pa κ ver 1 j 0))) := idx_ow und_intS sz_int
theorem ln_intS {sz : Nat} {rows : List (List Value)} {K : Value → Prop} : onO (lenS Tryz.prog 22 (.at (.im sz rows))) K = K (.int .i64 rows.length) := len_im und_intS
theorem lo_intS {κ ver sz n : Nat} {K : Value → Prop} : onO (lenS Tryz.prog 22 (.at (.ow κ ver sz n))) K = K (.int .i64 n) := len_ow und_intS
theorem lz_intS {K : Value → Prop} : onO (lenS Tryz.prog 22 (.at .nil)) K = K (.int .i64 0) := len_nil und_intS
theorem si_intS : siOf Tryz.prog 22 = some ⟨3, 1, 8, [.int .i64 0]⟩ := by kernel_rfl
theorem ci_intS {nx : Nat} {q : Qm} {t : Nat → AV} {m : Mem} {rows : List (List Value)} {lo hi : Option Operand} {K : AV → Mem → Prop} : onM (sliceS Tryz.prog nx q 22 ⟨t, m⟩ (.at (.im 1 rows)) lo hi none) K = onO (todo (boundS ⟨t, m⟩ lo 0)) fun l => onO (todo (boundS ⟨t, m⟩ hi rows.length)) fun h => (0 ≤ l ∧ l ≤ h ∧ h ≤ (rows.length : Int)) ∧ evK (todo ((rows.drop l.toNat).take (h.toNat - l.toNat))) fun rs => K (.at (.im 1 rs)) m := cut_im_k und_intS sz_int
theorem cn_intS {nx : Nat} {q : Qm} {t : Nat → AV} {m : Mem} {lo hi : Option Operand} {K : AV → Mem → Prop} : onM (sliceS Tryz.prog nx q 22 ⟨t, m⟩ (.at .nil) lo hi none) K = onO (todo (boundS ⟨t, m⟩ lo 0)) fun l => onO (todo (boundS ⟨t, m⟩ hi 0)) fun h => (l = 0 ∧ h = 0) ∧ K (.at .nil) m := cut_nil_k und_intS sz_int
attribute [go_sem] ix_intS io_intS ln_intS lo_intS lz_intS si_intS ci_intS cn_intS
attribute [go_sem] sz_intS
theorem lb_intS {m : Mem} {κ ver off : Nat} {K : AV → Prop} : onR (loadS Tryz.prog 22 m (.at (.bx κ ver off))) K = boxAt (todo (m κ)) ver fun cells => onO (todo cells[off]?) fun a => K (.at a) := load_bxK1 agg_intS
theorem sb_intS {m : Mem} {κ ver off : Nat} {X : AV} {K : Mem → Prop} : onR (storeS Tryz.prog 22 m (.at (.bx κ ver off)) X) K = boxAt (todo (m κ)) ver fun cells => onO (todo (atomsOf X)) fun new => new.length = 1 ∧ off + 1 ≤ cells.length ∧ evK (todo (splice cells off new)) fun cs => K (upd m κ (.box ver cs)) := store_bxK sz_intS
theorem sp_intS {m : Mem} {κ ver sz j off : Nat} {X : AV} {K : Mem → Prop} : onR (storeS Tryz.prog 22 m (.at (.pa κ ver sz j off)) X) K = arrAt (todo (m κ)) ver sz fun rows => onO (todo ((atomsOf X).bind valsOf)) fun us => us.length = 1 ∧ (j < rows.length ∧ off + 1 ≤ sz) ∧ evK (todo (rows.set j (splice (rows.getD j []) off us))) fun rs => K (upd m κ (.arr ver sz rs)) := store_paK sz_intS
attribute [go_sem] lb_intS sb_intS sp_intS
theorem und_boolS : Tryz.prog.underlying 29 = some (.slice 4) := Tryz.underlying29
theorem agg_boolS : aggT Tryz.prog 29 = some false := by kernel_rfl
theorem sz_boolS : szT Tryz.prog 29 = some 1 := by kernel_rfl
theorem ix_boolS {rows : List (List Value)} {k : IntKind} {i : Int} {K : AV → Prop} : onR (indexAddrS Tryz.prog 29 (.at (.im 1 rows)) (.at (.v (.int k i)))) K = ((0 ≤ i ∧ i < (rows.length : Int)) ∧ ∀ r, rows[i.toNat]? = some r → K (.at (.pi r))) := idx_im und_boolS sz_bool
theorem io_boolS {κ ver n : Nat} {k : IntKind} {i : Int} {K : AV → Prop} : onR (indexAddrS Tryz.prog 29 (.at (.ow κ ver 1 n)) (.at (.v (.int k i)))) K = ((0 ≤ i ∧ i < (n : Int)) ∧ evK (todo i.toNat) fun j => K (.at (.pa κ ver 1 j 0))) := idx_ow und_boolS sz_bool
theorem ln_boolS {sz : Nat} {rows : List (List Value)} {K : Value → Prop} : onO (lenS Tryz.prog 29 (.at (.im sz rows))) K = K (.int .i64 rows.length) := len_im und_boolS
theorem lo_boolS {κ ver sz n : Nat} {K : Value → Prop} : onO (lenS Tryz.prog 29 (.at (.ow κ ver sz n))) K = K (.int .i64 n) := len_ow und_boolS
theorem lz_boolS {K : Value → Prop} : onO (lenS Tryz.prog 29 (.at .nil)) K = K (.int .i64 0) := len_nil und_boolS
theorem si_boolS : siOf Tryz.prog 29 = some ⟨4, 1, 1, [.bool false]⟩ := by kernel_rfl
theorem ci_boolS {nx : Nat} {q : Qm} {t : Nat → AV} {m : Mem} {rows : List (List Value)} {lo hi : Option Operand} {K : AV → Mem → Prop} : onM (sliceS Tryz.prog nx q 29 ⟨t, m⟩ (.at (.im 1 rows)) lo hi none) K = onO (todo (boundS ⟨t, m⟩ lo 0)) fun l => onO (todo (boundS ⟨t, m⟩ hi rows.length)) fun h => (0 ≤ l ∧ l ≤ h ∧ h ≤ (rows.length : Int)) ∧ evK (todo ((rows.drop l.toNat).take (h.toNat - l.toNat))) fun rs => K (.at (.im 1 rs)) m := cut_im_k und_boolS sz_bool
theorem cn_boolS {nx : Nat} {q : Qm} {t : Nat → AV} {m : Mem} {lo hi : Option Operand} {K : AV → Mem → Prop} : onM (sliceS Tryz.prog nx q 29 ⟨t, m⟩ (.at .nil) lo hi none) K = onO (todo (boundS ⟨t, m⟩ lo 0)) fun l => onO (todo (boundS ⟨t, m⟩ hi 0)) fun h => (l = 0 ∧ h = 0) ∧ K (.at .nil) m := cut_nil_k und_boolS sz_bool
attribute [go_sem] ix_boolS io_boolS ln_boolS lo_boolS lz_boolS si_boolS ci_boolS cn_boolS
attribute [go_sem] sz_boolS
theorem lb_boolS {m : Mem} {κ ver off : Nat} {K : AV → Prop} : onR (loadS Tryz.prog 29 m (.at (.bx κ ver off))) K = boxAt (todo (m κ)) ver fun cells => onO (todo cells[off]?) fun a => K (.at a) := load_bxK1 agg_boolS
theorem sb_boolS {m : Mem} {κ ver off : Nat} {X : AV} {K : Mem → Prop} : onR (storeS Tryz.prog 29 m (.at (.bx κ ver off)) X) K = boxAt (todo (m κ)) ver fun cells => onO (todo (atomsOf X)) fun new => new.length = 1 ∧ off + 1 ≤ cells.length ∧ evK (todo (splice cells off new)) fun cs => K (upd m κ (.box ver cs)) := store_bxK sz_boolS
theorem sp_boolS {m : Mem} {κ ver sz j off : Nat} {X : AV} {K : Mem → Prop} : onR (storeS Tryz.prog 29 m (.at (.pa κ ver sz j off)) X) K = arrAt (todo (m κ)) ver sz fun rows => onO (todo ((atomsOf X).bind valsOf)) fun us => us.length = 1 ∧ (j < rows.length ∧ off + 1 ≤ sz) ∧ evK (todo (rows.set j (splice (rows.getD j []) off us))) fun rs => K (upd m κ (.arr ver sz rs)) := store_paK sz_boolS
attribute [go_sem] lb_boolS sb_boolS sp_boolS
theorem agg_implPage : aggT Tryz.prog 143 = some true := by kernel_rfl
theorem sz_implPage : szT Tryz.prog 143 = some 4 := by kernel_rfl
theorem by_implPage : (Tryz.prog.info? 143).map (·.bytes) = some 32 := by kernel_rfl
theorem zv_implPage : zeroVals Tryz.prog 143 = some [.int .i64 0, .int .i64 0, .int .i64 0, .int .i64 0] := by kernel_rfl
theorem za_implPage : zeroAtoms Tryz.prog 143 = some [.v (.int .i64 0), .v (.int .i64 0), .v (.int .i64 0), .v (.int .i64 0)] := by kernel_rfl
attribute [go_sem] za_implPage sz_implPage
theorem ld_implPage {m : Mem} {cs : List Value} {K : AV → Prop} : onR (loadS Tryz.prog 143 m (.at (.pi cs))) K = (4 ≤ cs.length ∧ evK (todo ((cs.take 4).map A.v)) fun cs => K (.ag cs)) := load_piN agg_implPage sz_implPage
theorem ti_implPage : tiOf Tryz.prog 143 = some ⟨[⟨ "Day", 3, 0, false, "", "", 0⟩, ⟨ "Cell", 3, 1, false, "", "", 8⟩, ⟨ "Food", 3, 2, false, "", "", 16⟩, ⟨ "Seal", 3, 3, false, "", "", 24⟩], [.v (.int .i64 0), .v (.int .i64 0), .v (.int .i64 0), .v (.int .i64 0)]⟩ := by kernel_rfl
theorem lp_implPage {κ ver sz j off : Nat} {m : Mem} {K : AV → Prop} : loadK Tryz.prog 143 m (.at (.pa κ ver sz j off)) K = (off + 4 ≤ sz ∧ rowAt (todo (m κ)) ver sz j fun r => evK (todo (((r.drop off).take 4).map A.v)) fun cs => K (.ag cs)) := loadK_paB agg_implPage sz_implPage
attribute [go_sem] ld_implPage ti_implPage lp_implPage
theorem fp_implPage_0 {cs : List Value} {K : AV → Prop} : onO (fieldAddrS Tryz.prog 143 0 (.at (.pi cs))) K = evK (todo (cs.drop 0)) (fun c => K (.at (.pi c))) := fa_pi (fd := ⟨ "Day", 3, 0, false, "", "", 0⟩) Tryz.underlying143 rfl sz_int
theorem fo_implPage_0 {κ ver sz i off : Nat} {K : AV → Prop} : onO (fieldAddrS Tryz.prog 143 0 (.at (.pa κ ver sz i off))) K = evK (todo (off + 0)) (fun o => K (.at (.pa κ ver sz i o))) := fa_pa (fd := ⟨ "Day", 3, 0, false, "", "", 0⟩) Tryz.underlying143 rfl sz_int
theorem fb_implPage_0 {κ ver off : Nat} {K : AV → Prop} : onO (fieldAddrS Tryz.prog 143 0 (.at (.bx κ ver off))) K = evK (todo (off + 0)) (fun o => K (.at (.bx κ ver o))) := fa_bx (fd := ⟨ "Day", 3, 0, false, "", "", 0⟩) Tryz.underlying143 rfl sz_int
theorem fg_implPage_0 {cs : List A} {K : AV → Prop} : onR (fieldS Tryz.prog 143 0 (.ag cs)) K = onO (todo cs[0]?) fun a => K (.at a) := field_1K (fd := ⟨ "Day", 3, 0, false, "", "", 0⟩) Tryz.underlying143 rfl agg_int
attribute [go_sem] fp_implPage_0 fo_implPage_0 fb_implPage_0 fg_implPage_0
theorem fp_implPage_1 {cs : List Value} {K : AV → Prop} : onO (fieldAddrS Tryz.prog 143 1 (.at (.pi cs))) K = evK (todo (cs.drop 1)) (fun c => K (.at (.pi c))) := fa_pi (fd := ⟨ "Cell", 3, 1, false, "", "", 8⟩) Tryz.underlying143 rfl sz_int
theorem fo_implPage_1 {κ ver sz i off : Nat} {K : AV → Prop} : onO (fieldAddrS Tryz.prog 143 1 (.at (.pa κ ver sz i off))) K = evK (todo (off + 1)) (fun o => K (.at (.pa κ ver sz i o))) := fa_pa (fd := ⟨ "Cell", 3, 1, false, "", "", 8⟩) Tryz.underlying143 rfl sz_int
theorem fb_implPage_1 {κ ver off : Nat} {K : AV → Prop} : onO (fieldAddrS Tryz.prog 143 1 (.at (.bx κ ver off))) K = evK (todo (off + 1)) (fun o => K (.at (.bx κ ver o))) := fa_bx (fd := ⟨ "Cell", 3, 1, false, "", "", 8⟩) Tryz.underlying143 rfl sz_int
theorem fg_implPage_1 {cs : List A} {K : AV → Prop} : onR (fieldS Tryz.prog 143 1 (.ag cs)) K = onO (todo cs[1]?) fun a => K (.at a) := field_1K (fd := ⟨ "Cell", 3, 1, false, "", "", 8⟩) Tryz.underlying143 rfl agg_int
attribute [go_sem] fp_implPage_1 fo_implPage_1 fb_implPage_1 fg_implPage_1
theorem fp_implPage_2 {cs : List Value} {K : AV → Prop} : onO (fieldAddrS Tryz.prog 143 2 (.at (.pi cs))) K = evK (todo (cs.drop 2)) (fun c => K (.at (.pi c))) := fa_pi (fd := ⟨ "Food", 3, 2, false, "", "", 16⟩) Tryz.underlying143 rfl sz_int
theorem fo_implPage_2 {κ ver sz i off : Nat} {K : AV → Prop} : onO (fieldAddrS Tryz.prog 143 2 (.at (.pa κ ver sz i off))) K = evK (todo (off + 2)) (fun o => K (.at (.pa κ ver sz i o))) := fa_pa (fd := ⟨ "Food", 3, 2, false, "", "", 16⟩) Tryz.underlying143 rfl sz_int
theorem fb_implPage_2 {κ ver off : Nat} {K : AV → Prop} : onO (fieldAddrS Tryz.prog 143 2 (.at (.bx κ ver off))) K = evK (todo (off + 2)) (fun o => K (.at (.bx κ ver o))) := fa_bx (fd := ⟨ "Food", 3, 2, false, "", "", 16⟩) Tryz.underlying143 rfl sz_int
theorem fg_implPage_2 {cs : List A} {K : AV → Prop} : onR (fieldS Tryz.prog 143 2 (.ag cs)) K = onO (todo cs[2]?) fun a => K (.at a) := field_1K (fd := ⟨ "Food", 3, 2, false, "", "", 16⟩) Tryz.underlying143 rfl agg_int
attribute [go_sem] fp_implPage_2 fo_implPage_2 fb_implPage_2 fg_implPage_2
theorem fp_implPage_3 {cs : List Value} {K : AV → Prop} : onO (fieldAddrS Tryz.prog 143 3 (.at (.pi cs))) K = evK (todo (cs.drop 3)) (fun c => K (.at (.pi c))) := fa_pi (fd := ⟨ "Seal", 3, 3, false, "", "", 24⟩) Tryz.underlying143 rfl sz_int
theorem fo_implPage_3 {κ ver sz i off : Nat} {K : AV → Prop} : onO (fieldAddrS Tryz.prog 143 3 (.at (.pa κ ver sz i off))) K = evK (todo (off + 3)) (fun o => K (.at (.pa κ ver sz i o))) := fa_pa (fd := ⟨ "Seal", 3, 3, false, "", "", 24⟩) Tryz.underlying143 rfl sz_int
theorem fb_implPage_3 {κ ver off : Nat} {K : AV → Prop} : onO (fieldAddrS Tryz.prog 143 3 (.at (.bx κ ver off))) K = evK (todo (off + 3)) (fun o => K (.at (.bx κ ver o))) := fa_bx (fd := ⟨ "Seal", 3, 3, false, "", "", 24⟩) Tryz.underlying143 rfl sz_int
theorem fg_implPage_3 {cs : List A} {K : AV → Prop} : onR (fieldS Tryz.prog 143 3 (.ag cs)) K = onO (todo cs[3]?) fun a => K (.at a) := field_1K (fd := ⟨ "Seal", 3, 3, false, "", "", 24⟩) Tryz.underlying143 rfl agg_int
attribute [go_sem] fp_implPage_3 fo_implPage_3 fb_implPage_3 fg_implPage_3
theorem lb_implPage {m : Mem} {κ ver off : Nat} {K : AV → Prop} : onR (loadS Tryz.prog 143 m (.at (.bx κ ver off))) K = boxAt (todo (m κ)) ver fun cells => off + 4 ≤ cells.length ∧ evK (todo ((cells.drop off).take 4)) fun cs => K (.ag cs) := load_bxKN agg_implPage sz_implPage
theorem sb_implPage {m : Mem} {κ ver off : Nat} {X : AV} {K : Mem → Prop} : onR (storeS Tryz.prog 143 m (.at (.bx κ ver off)) X) K = boxAt (todo (m κ)) ver fun cells => onO (todo (atomsOf X)) fun new => new.length = 4 ∧ off + 4 ≤ cells.length ∧ evK (todo (splice cells off new)) fun cs => K (upd m κ (.box ver cs)) := store_bxK sz_implPage
theorem sp_implPage {m : Mem} {κ ver sz j off : Nat} {X : AV} {K : Mem → Prop} : onR (storeS Tryz.prog 143 m (.at (.pa κ ver sz j off)) X) K = arrAt (todo (m κ)) ver sz fun rows => onO (todo ((atomsOf X).bind valsOf)) fun us => us.length = 4 ∧ (j < rows.length ∧ off + 4 ≤ sz) ∧ evK (todo (rows.set j (splice (rows.getD j []) off us))) fun rs => K (upd m κ (.arr ver sz rs)) := store_paK sz_implPage
attribute [go_sem] lb_implPage sb_implPage sp_implPage
theorem und_implPageS : Tryz.prog.underlying 42 = some (.slice 143) := Tryz.underlying42
theorem agg_implPageS : aggT Tryz.prog 42 = some false := by kernel_rfl
theorem sz_implPageS : szT Tryz.prog 42 = some 1 := by kernel_rfl
theorem ix_implPageS {rows : List (List Value)} {k : IntKind} {i : Int} {K : AV → Prop} : onR (indexAddrS Tryz.prog 42 (.at (.im 4 rows)) (.at (.v (.int k i)))) K = ((0 ≤ i ∧ i < (rows.length : Int)) ∧ ∀ r, rows[i.toNat]? = some r → K (.at (.pi r))) := idx_im und_implPageS sz_implPage
theorem io_implPageS {κ ver n : Nat} {k : IntKind} {i : Int} {K : AV → Prop} : onR (indexAddrS Tryz.prog 42 (.at (.ow κ ver 4 n)) (.at (.v (.int k i)))) K = ((0 ≤ i ∧ i < (n : Int)) ∧ evK (todo i.toNat) fun j => K (.at (.pa κ ver 4 j 0))) := idx_ow und_implPageS sz_implPage
theorem ln_implPageS {sz : Nat} {rows : List (List Value)} {K : Value → Prop} : onO (lenS Tryz.prog 42 (.at (.im sz rows))) K = K (.int .i64 rows.length) := len_im und_implPageS
theorem lo_implPageS {κ ver sz n : Nat} {K : Value → Prop} : onO (lenS Tryz.prog 42 (.at (.ow κ ver sz n))) K = K (.int .i64 n) := len_ow und_implPageS
theorem lz_implPageS {K : Value → Prop} : onO (lenS Tryz.prog 42 (.at .nil)) K = K (.int .i64 0) := len_nil und_implPageS
theorem si_implPageS : siOf Tryz.prog 42 = some ⟨143, 4, 32, [.int .i64 0, .int .i64 0, .int .i64 0, .int .i64 0]⟩ := by kernel_rfl
theorem ci_implPageS {nx : Nat} {q : Qm} {t : Nat → AV} {m : Mem} {rows : List (List Value)} {lo hi : Option Operand} {K : AV → Mem → Prop} : onM (sliceS Tryz.prog nx q 42 ⟨t, m⟩ (.at (.im 4 rows)) lo hi none) K = onO (todo (boundS ⟨t, m⟩ lo 0)) fun l => onO (todo (boundS ⟨t, m⟩ hi rows.length)) fun h => (0 ≤ l ∧ l ≤ h ∧ h ≤ (rows.length : Int)) ∧ evK (todo ((rows.drop l.toNat).take (h.toNat - l.toNat))) fun rs => K (.at (.im 4 rs)) m := cut_im_k und_implPageS sz_implPage
theorem cn_implPageS {nx : Nat} {q : Qm} {t : Nat → AV} {m : Mem} {lo hi : Option Operand} {K : AV → Mem → Prop} : onM (sliceS Tryz.prog nx q 42 ⟨t, m⟩ (.at .nil) lo hi none) K = onO (todo (boundS ⟨t, m⟩ lo 0)) fun l => onO (todo (boundS ⟨t, m⟩ hi 0)) fun h => (l = 0 ∧ h = 0) ∧ K (.at .nil) m := cut_nil_k und_implPageS sz_implPage
attribute [go_sem] ix_implPageS io_implPageS ln_implPageS lo_implPageS lz_implPageS si_implPageS ci_implPageS cn_implPageS
attribute [go_sem] sz_implPageS
theorem lb_implPageS {m : Mem} {κ ver off : Nat} {K : AV → Prop} : onR (loadS Tryz.prog 42 m (.at (.bx κ ver off))) K = boxAt (todo (m κ)) ver fun cells => onO (todo cells[off]?) fun a => K (.at a) := load_bxK1 agg_implPageS
theorem sb_implPageS {m : Mem} {κ ver off : Nat} {X : AV} {K : Mem → Prop} : onR (storeS Tryz.prog 42 m (.at (.bx κ ver off)) X) K = boxAt (todo (m κ)) ver fun cells => onO (todo (atomsOf X)) fun new => new.length = 1 ∧ off + 1 ≤ cells.length ∧ evK (todo (splice cells off new)) fun cs => K (upd m κ (.box ver cs)) := store_bxK sz_implPageS
theorem sp_implPageS {m : Mem} {κ ver sz j off : Nat} {X : AV} {K : Mem → Prop} : onR (storeS Tryz.prog 42 m (.at (.pa κ ver sz j off)) X) K = arrAt (todo (m κ)) ver sz fun rows => onO (todo ((atomsOf X).bind valsOf)) fun us => us.length = 1 ∧ (j < rows.length ∧ off + 1 ≤ sz) ∧ evK (todo (rows.set j (splice (rows.getD j []) off us))) fun rs => K (upd m κ (.arr ver sz rs)) := store_paK sz_implPageS
attribute [go_sem] lb_implPageS sb_implPageS sp_implPageS
theorem agg_implEvent : aggT Tryz.prog 61 = some true := by kernel_rfl
theorem sz_implEvent : szT Tryz.prog 61 = some 3 := by kernel_rfl
theorem by_implEvent : (Tryz.prog.info? 61).map (·.bytes) = some 24 := by kernel_rfl
theorem zv_implEvent : zeroVals Tryz.prog 61 = some [.int .i64 0, .int .i64 0, .bool false] := by kernel_rfl
theorem za_implEvent : zeroAtoms Tryz.prog 61 = some [.v (.int .i64 0), .v (.int .i64 0), .v (.bool false)] := by kernel_rfl
attribute [go_sem] za_implEvent sz_implEvent
theorem ld_implEvent {m : Mem} {cs : List Value} {K : AV → Prop} : onR (loadS Tryz.prog 61 m (.at (.pi cs))) K = (3 ≤ cs.length ∧ evK (todo ((cs.take 3).map A.v)) fun cs => K (.ag cs)) := load_piN agg_implEvent sz_implEvent
theorem ti_implEvent : tiOf Tryz.prog 61 = some ⟨[⟨ "Kind", 3, 0, false, "", "", 0⟩, ⟨ "N", 3, 1, false, "", "", 8⟩, ⟨ "Storm", 4, 2, false, "", "", 16⟩], [.v (.int .i64 0), .v (.int .i64 0), .v (.bool false)]⟩ := by kernel_rfl
theorem lp_implEvent {κ ver sz j off : Nat} {m : Mem} {K : AV → Prop} : loadK Tryz.prog 61 m (.at (.pa κ ver sz j off)) K = (off + 3 ≤ sz ∧ rowAt (todo (m κ)) ver sz j fun r => evK (todo (((r.drop off).take 3).map A.v)) fun cs => K (.ag cs)) := loadK_paB agg_implEvent sz_implEvent
attribute [go_sem] ld_implEvent ti_implEvent lp_implEvent
theorem fp_implEvent_0 {cs : List Value} {K : AV → Prop} : onO (fieldAddrS Tryz.prog 61 0 (.at (.pi cs))) K = evK (todo (cs.drop 0)) (fun c => K (.at (.pi c))) := fa_pi (fd := ⟨ "Kind", 3, 0, false, "", "", 0⟩) Tryz.underlying61 rfl sz_int
theorem fo_implEvent_0 {κ ver sz i off : Nat} {K : AV → Prop} : onO (fieldAddrS Tryz.prog 61 0 (.at (.pa κ ver sz i off))) K = evK (todo (off + 0)) (fun o => K (.at (.pa κ ver sz i o))) := fa_pa (fd := ⟨ "Kind", 3, 0, false, "", "", 0⟩) Tryz.underlying61 rfl sz_int
theorem fb_implEvent_0 {κ ver off : Nat} {K : AV → Prop} : onO (fieldAddrS Tryz.prog 61 0 (.at (.bx κ ver off))) K = evK (todo (off + 0)) (fun o => K (.at (.bx κ ver o))) := fa_bx (fd := ⟨ "Kind", 3, 0, false, "", "", 0⟩) Tryz.underlying61 rfl sz_int
theorem fg_implEvent_0 {cs : List A} {K : AV → Prop} : onR (fieldS Tryz.prog 61 0 (.ag cs)) K = onO (todo cs[0]?) fun a => K (.at a) := field_1K (fd := ⟨ "Kind", 3, 0, false, "", "", 0⟩) Tryz.underlying61 rfl agg_int
attribute [go_sem] fp_implEvent_0 fo_implEvent_0 fb_implEvent_0 fg_implEvent_0
theorem fp_implEvent_1 {cs : List Value} {K : AV → Prop} : onO (fieldAddrS Tryz.prog 61 1 (.at (.pi cs))) K = evK (todo (cs.drop 1)) (fun c => K (.at (.pi c))) := fa_pi (fd := ⟨ "N", 3, 1, false, "", "", 8⟩) Tryz.underlying61 rfl sz_int
theorem fo_implEvent_1 {κ ver sz i off : Nat} {K : AV → Prop} : onO (fieldAddrS Tryz.prog 61 1 (.at (.pa κ ver sz i off))) K = evK (todo (off + 1)) (fun o => K (.at (.pa κ ver sz i o))) := fa_pa (fd := ⟨ "N", 3, 1, false, "", "", 8⟩) Tryz.underlying61 rfl sz_int
theorem fb_implEvent_1 {κ ver off : Nat} {K : AV → Prop} : onO (fieldAddrS Tryz.prog 61 1 (.at (.bx κ ver off))) K = evK (todo (off + 1)) (fun o => K (.at (.bx κ ver o))) := fa_bx (fd := ⟨ "N", 3, 1, false, "", "", 8⟩) Tryz.underlying61 rfl sz_int
theorem fg_implEvent_1 {cs : List A} {K : AV → Prop} : onR (fieldS Tryz.prog 61 1 (.ag cs)) K = onO (todo cs[1]?) fun a => K (.at a) := field_1K (fd := ⟨ "N", 3, 1, false, "", "", 8⟩) Tryz.underlying61 rfl agg_int
attribute [go_sem] fp_implEvent_1 fo_implEvent_1 fb_implEvent_1 fg_implEvent_1
theorem fp_implEvent_2 {cs : List Value} {K : AV → Prop} : onO (fieldAddrS Tryz.prog 61 2 (.at (.pi cs))) K = evK (todo (cs.drop 2)) (fun c => K (.at (.pi c))) := fa_pi (fd := ⟨ "Storm", 4, 2, false, "", "", 16⟩) Tryz.underlying61 rfl sz_bool
theorem fo_implEvent_2 {κ ver sz i off : Nat} {K : AV → Prop} : onO (fieldAddrS Tryz.prog 61 2 (.at (.pa κ ver sz i off))) K = evK (todo (off + 2)) (fun o => K (.at (.pa κ ver sz i o))) := fa_pa (fd := ⟨ "Storm", 4, 2, false, "", "", 16⟩) Tryz.underlying61 rfl sz_bool
theorem fb_implEvent_2 {κ ver off : Nat} {K : AV → Prop} : onO (fieldAddrS Tryz.prog 61 2 (.at (.bx κ ver off))) K = evK (todo (off + 2)) (fun o => K (.at (.bx κ ver o))) := fa_bx (fd := ⟨ "Storm", 4, 2, false, "", "", 16⟩) Tryz.underlying61 rfl sz_bool
theorem fg_implEvent_2 {cs : List A} {K : AV → Prop} : onR (fieldS Tryz.prog 61 2 (.ag cs)) K = onO (todo cs[2]?) fun a => K (.at a) := field_1K (fd := ⟨ "Storm", 4, 2, false, "", "", 16⟩) Tryz.underlying61 rfl agg_bool
attribute [go_sem] fp_implEvent_2 fo_implEvent_2 fb_implEvent_2 fg_implEvent_2
theorem lb_implEvent {m : Mem} {κ ver off : Nat} {K : AV → Prop} : onR (loadS Tryz.prog 61 m (.at (.bx κ ver off))) K = boxAt (todo (m κ)) ver fun cells => off + 3 ≤ cells.length ∧ evK (todo ((cells.drop off).take 3)) fun cs => K (.ag cs) := load_bxKN agg_implEvent sz_implEvent
theorem sb_implEvent {m : Mem} {κ ver off : Nat} {X : AV} {K : Mem → Prop} : onR (storeS Tryz.prog 61 m (.at (.bx κ ver off)) X) K = boxAt (todo (m κ)) ver fun cells => onO (todo (atomsOf X)) fun new => new.length = 3 ∧ off + 3 ≤ cells.length ∧ evK (todo (splice cells off new)) fun cs => K (upd m κ (.box ver cs)) := store_bxK sz_implEvent
theorem sp_implEvent {m : Mem} {κ ver sz j off : Nat} {X : AV} {K : Mem → Prop} : onR (storeS Tryz.prog 61 m (.at (.pa κ ver sz j off)) X) K = arrAt (todo (m κ)) ver sz fun rows => onO (todo ((atomsOf X).bind valsOf)) fun us => us.length = 3 ∧ (j < rows.length ∧ off + 3 ≤ sz) ∧ evK (todo (rows.set j (splice (rows.getD j []) off us))) fun rs => K (upd m κ (.arr ver sz rs)) := store_paK sz_implEvent
attribute [go_sem] lb_implEvent sb_implEvent sp_implEvent
theorem und_implEventS : Tryz.prog.underlying 67 = some (.slice 61) := Tryz.underlying67
theorem agg_implEventS : aggT Tryz.prog 67 = some false := by kernel_rfl
theorem sz_implEventS : szT Tryz.prog 67 = some 1 := by kernel_rfl
theorem ix_implEventS {rows : List (List Value)} {k : IntKind} {i : Int} {K : AV → Prop} : onR (indexAddrS Tryz.prog 67 (.at (.im 3 rows)) (.at (.v (.int k i)))) K = ((0 ≤ i ∧ i < (rows.length : Int)) ∧ ∀ r, rows[i.toNat]? = some r → K (.at (.pi r))) := idx_im und_implEventS sz_implEvent
theorem io_implEventS {κ ver n : Nat} {k : IntKind} {i : Int} {K : AV → Prop} : onR (indexAddrS Tryz.prog 67 (.at (.ow κ ver 3 n)) (.at (.v (.int k i)))) K = ((0 ≤ i ∧ i < (n : Int)) ∧ evK (todo i.toNat) fun j => K (.at (.pa κ ver 3 j 0))) := idx_ow und_implEventS sz_implEvent
theorem ln_implEventS {sz : Nat} {rows : List (List Value)} {K : Value → Prop} : onO (lenS Tryz.prog 67 (.at (.im sz rows))) K = K (.int .i64 rows.length) := len_im und_implEventS
theorem lo_implEventS {κ ver sz n : Nat} {K : Value → Prop} : onO (lenS Tryz.prog 67 (.at (.ow κ ver sz n))) K = K (.int .i64 n) := len_ow und_implEventS
theorem lz_implEventS {K : Value → Prop} : onO (lenS Tryz.prog 67 (.at .nil)) K = K (.int .i64 0) := len_nil und_implEventS
theorem si_implEventS : siOf Tryz.prog 67 = some ⟨61, 3, 24, [.int .i64 0, .int .i64 0, .bool false]⟩ := by kernel_rfl
theorem ci_implEventS {nx : Nat} {q : Qm} {t : Nat → AV} {m : Mem} {rows : List (List Value)} {lo hi : Option Operand} {K : AV → Mem → Prop} : onM (sliceS Tryz.prog nx q 67 ⟨t, m⟩ (.at (.im 3 rows)) lo hi none) K = onO (todo (boundS ⟨t, m⟩ lo 0)) fun l => onO (todo (boundS ⟨t, m⟩ hi rows.length)) fun h => (0 ≤ l ∧ l ≤ h ∧ h ≤ (rows.length : Int)) ∧ evK (todo ((rows.drop l.toNat).take (h.toNat - l.toNat))) fun rs => K (.at (.im 3 rs)) m := cut_im_k und_implEventS sz_implEvent
theorem cn_implEventS {nx : Nat} {q : Qm} {t : Nat → AV} {m : Mem} {lo hi : Option Operand} {K : AV → Mem → Prop} : onM (sliceS Tryz.prog nx q 67 ⟨t, m⟩ (.at .nil) lo hi none) K = onO (todo (boundS ⟨t, m⟩ lo 0)) fun l => onO (todo (boundS ⟨t, m⟩ hi 0)) fun h => (l = 0 ∧ h = 0) ∧ K (.at .nil) m := cut_nil_k und_implEventS sz_implEvent
attribute [go_sem] ix_implEventS io_implEventS ln_implEventS lo_implEventS lz_implEventS si_implEventS ci_implEventS cn_implEventS
attribute [go_sem] sz_implEventS
theorem lb_implEventS {m : Mem} {κ ver off : Nat} {K : AV → Prop} : onR (loadS Tryz.prog 67 m (.at (.bx κ ver off))) K = boxAt (todo (m κ)) ver fun cells => onO (todo cells[off]?) fun a => K (.at a) := load_bxK1 agg_implEventS
theorem sb_implEventS {m : Mem} {κ ver off : Nat} {X : AV} {K : Mem → Prop} : onR (storeS Tryz.prog 67 m (.at (.bx κ ver off)) X) K = boxAt (todo (m κ)) ver fun cells => onO (todo (atomsOf X)) fun new => new.length = 1 ∧ off + 1 ≤ cells.length ∧ evK (todo (splice cells off new)) fun cs => K (upd m κ (.box ver cs)) := store_bxK sz_implEventS
theorem sp_implEventS {m : Mem} {κ ver sz j off : Nat} {X : AV} {K : Mem → Prop} : onR (storeS Tryz.prog 67 m (.at (.pa κ ver sz j off)) X) K = arrAt (todo (m κ)) ver sz fun rows => onO (todo ((atomsOf X).bind valsOf)) fun us => us.length = 1 ∧ (j < rows.length ∧ off + 1 ≤ sz) ∧ evK (todo (rows.set j (splice (rows.getD j []) off us))) fun rs => K (upd m κ (.arr ver sz rs)) := store_paK sz_implEventS
attribute [go_sem] lb_implEventS sb_implEventS sp_implEventS
theorem agg_implLand : aggT Tryz.prog 36 = some true := by kernel_rfl
theorem sz_implLand : szT Tryz.prog 36 = some 3 := by kernel_rfl
theorem by_implLand : (Tryz.prog.info? 36).map (·.bytes) = some 40 := by kernel_rfl
theorem zv_implLand : zeroVals Tryz.prog 36 = some [.int .i64 0, .int .i64 0, .slice none 0 0] := by kernel_rfl
theorem za_implLand : zeroAtoms Tryz.prog 36 = some [.v (.int .i64 0), .v (.int .i64 0), .nil] := by kernel_rfl
attribute [go_sem] za_implLand sz_implLand
theorem ld_implLand {m : Mem} {cs : List Value} {K : AV → Prop} : onR (loadS Tryz.prog 36 m (.at (.pi cs))) K = (3 ≤ cs.length ∧ evK (todo ((cs.take 3).map A.v)) fun cs => K (.ag cs)) := load_piN agg_implLand sz_implLand
theorem ti_implLand : tiOf Tryz.prog 36 = some ⟨[⟨ "W", 3, 0, false, "", "", 0⟩, ⟨ "H", 3, 1, false, "", "", 8⟩, ⟨ "Cells", 22, 2, false, "", "", 16⟩], [.v (.int .i64 0), .v (.int .i64 0), .nil]⟩ := by kernel_rfl
theorem lp_implLand {κ ver sz j off : Nat} {m : Mem} {K : AV → Prop} : loadK Tryz.prog 36 m (.at (.pa κ ver sz j off)) K = (off + 3 ≤ sz ∧ rowAt (todo (m κ)) ver sz j fun r => evK (todo (((r.drop off).take 3).map A.v)) fun cs => K (.ag cs)) := loadK_paB agg_implLand sz_implLand
attribute [go_sem] ld_implLand ti_implLand lp_implLand
theorem fp_implLand_0 {cs : List Value} {K : AV → Prop} : onO (fieldAddrS Tryz.prog 36 0 (.at (.pi cs))) K = evK (todo (cs.drop 0)) (fun c => K (.at (.pi c))) := fa_pi (fd := ⟨ "W", 3, 0, false, "", "", 0⟩) Tryz.underlying36 rfl sz_int
theorem fo_implLand_0 {κ ver sz i off : Nat} {K : AV → Prop} : onO (fieldAddrS Tryz.prog 36 0 (.at (.pa κ ver sz i off))) K = evK (todo (off + 0)) (fun o => K (.at (.pa κ ver sz i o))) := fa_pa (fd := ⟨ "W", 3, 0, false, "", "", 0⟩) Tryz.underlying36 rfl sz_int
theorem fb_implLand_0 {κ ver off : Nat} {K : AV → Prop} : onO (fieldAddrS Tryz.prog 36 0 (.at (.bx κ ver off))) K = evK (todo (off + 0)) (fun o => K (.at (.bx κ ver o))) := fa_bx (fd := ⟨ "W", 3, 0, false, "", "", 0⟩) Tryz.underlying36 rfl sz_int
theorem fg_implLand_0 {cs : List A} {K : AV → Prop} : onR (fieldS Tryz.prog 36 0 (.ag cs)) K = onO (todo cs[0]?) fun a => K (.at a) := field_1K (fd := ⟨ "W", 3, 0, false, "", "", 0⟩) Tryz.underlying36 rfl agg_int
attribute [go_sem] fp_implLand_0 fo_implLand_0 fb_implLand_0 fg_implLand_0
theorem fp_implLand_1 {cs : List Value} {K : AV → Prop} : onO (fieldAddrS Tryz.prog 36 1 (.at (.pi cs))) K = evK (todo (cs.drop 1)) (fun c => K (.at (.pi c))) := fa_pi (fd := ⟨ "H", 3, 1, false, "", "", 8⟩) Tryz.underlying36 rfl sz_int
theorem fo_implLand_1 {κ ver sz i off : Nat} {K : AV → Prop} : onO (fieldAddrS Tryz.prog 36 1 (.at (.pa κ ver sz i off))) K = evK (todo (off + 1)) (fun o => K (.at (.pa κ ver sz i o))) := fa_pa (fd := ⟨ "H", 3, 1, false, "", "", 8⟩) Tryz.underlying36 rfl sz_int
theorem fb_implLand_1 {κ ver off : Nat} {K : AV → Prop} : onO (fieldAddrS Tryz.prog 36 1 (.at (.bx κ ver off))) K = evK (todo (off + 1)) (fun o => K (.at (.bx κ ver o))) := fa_bx (fd := ⟨ "H", 3, 1, false, "", "", 8⟩) Tryz.underlying36 rfl sz_int
theorem fg_implLand_1 {cs : List A} {K : AV → Prop} : onR (fieldS Tryz.prog 36 1 (.ag cs)) K = onO (todo cs[1]?) fun a => K (.at a) := field_1K (fd := ⟨ "H", 3, 1, false, "", "", 8⟩) Tryz.underlying36 rfl agg_int
attribute [go_sem] fp_implLand_1 fo_implLand_1 fb_implLand_1 fg_implLand_1
theorem fp_implLand_2 {cs : List Value} {K : AV → Prop} : onO (fieldAddrS Tryz.prog 36 2 (.at (.pi cs))) K = evK (todo (cs.drop 2)) (fun c => K (.at (.pi c))) := fa_pi (fd := ⟨ "Cells", 22, 2, false, "", "", 16⟩) Tryz.underlying36 rfl sz_intS
theorem fo_implLand_2 {κ ver sz i off : Nat} {K : AV → Prop} : onO (fieldAddrS Tryz.prog 36 2 (.at (.pa κ ver sz i off))) K = evK (todo (off + 2)) (fun o => K (.at (.pa κ ver sz i o))) := fa_pa (fd := ⟨ "Cells", 22, 2, false, "", "", 16⟩) Tryz.underlying36 rfl sz_intS
theorem fb_implLand_2 {κ ver off : Nat} {K : AV → Prop} : onO (fieldAddrS Tryz.prog 36 2 (.at (.bx κ ver off))) K = evK (todo (off + 2)) (fun o => K (.at (.bx κ ver o))) := fa_bx (fd := ⟨ "Cells", 22, 2, false, "", "", 16⟩) Tryz.underlying36 rfl sz_intS
theorem fg_implLand_2 {cs : List A} {K : AV → Prop} : onR (fieldS Tryz.prog 36 2 (.ag cs)) K = onO (todo cs[2]?) fun a => K (.at a) := field_1K (fd := ⟨ "Cells", 22, 2, false, "", "", 16⟩) Tryz.underlying36 rfl agg_intS
attribute [go_sem] fp_implLand_2 fo_implLand_2 fb_implLand_2 fg_implLand_2
theorem lb_implLand {m : Mem} {κ ver off : Nat} {K : AV → Prop} : onR (loadS Tryz.prog 36 m (.at (.bx κ ver off))) K = boxAt (todo (m κ)) ver fun cells => off + 3 ≤ cells.length ∧ evK (todo ((cells.drop off).take 3)) fun cs => K (.ag cs) := load_bxKN agg_implLand sz_implLand
theorem sb_implLand {m : Mem} {κ ver off : Nat} {X : AV} {K : Mem → Prop} : onR (storeS Tryz.prog 36 m (.at (.bx κ ver off)) X) K = boxAt (todo (m κ)) ver fun cells => onO (todo (atomsOf X)) fun new => new.length = 3 ∧ off + 3 ≤ cells.length ∧ evK (todo (splice cells off new)) fun cs => K (upd m κ (.box ver cs)) := store_bxK sz_implLand
theorem sp_implLand {m : Mem} {κ ver sz j off : Nat} {X : AV} {K : Mem → Prop} : onR (storeS Tryz.prog 36 m (.at (.pa κ ver sz j off)) X) K = arrAt (todo (m κ)) ver sz fun rows => onO (todo ((atomsOf X).bind valsOf)) fun us => us.length = 3 ∧ (j < rows.length ∧ off + 3 ≤ sz) ∧ evK (todo (rows.set j (splice (rows.getD j []) off us))) fun rs => K (upd m κ (.arr ver sz rs)) := store_paK sz_implLand
attribute [go_sem] lb_implLand sb_implLand sp_implLand
theorem agg_implRule : aggT Tryz.prog 37 = some true := by kernel_rfl
theorem sz_implRule : szT Tryz.prog 37 = some 2 := by kernel_rfl
theorem by_implRule : (Tryz.prog.info? 37).map (·.bytes) = some 16 := by kernel_rfl
theorem zv_implRule : zeroVals Tryz.prog 37 = some [.int .i64 0, .int .i64 0] := by kernel_rfl
theorem za_implRule : zeroAtoms Tryz.prog 37 = some [.v (.int .i64 0), .v (.int .i64 0)] := by kernel_rfl
attribute [go_sem] za_implRule sz_implRule
theorem ld_implRule {m : Mem} {cs : List Value} {K : AV → Prop} : onR (loadS Tryz.prog 37 m (.at (.pi cs))) K = (2 ≤ cs.length ∧ evK (todo ((cs.take 2).map A.v)) fun cs => K (.ag cs)) := load_piN agg_implRule sz_implRule
theorem ti_implRule : tiOf Tryz.prog 37 = some ⟨[⟨ "Most", 3, 0, false, "", "", 0⟩, ⟨ "Window", 3, 1, false, "", "", 8⟩], [.v (.int .i64 0), .v (.int .i64 0)]⟩ := by kernel_rfl
theorem lp_implRule {κ ver sz j off : Nat} {m : Mem} {K : AV → Prop} : loadK Tryz.prog 37 m (.at (.pa κ ver sz j off)) K = (off + 2 ≤ sz ∧ rowAt (todo (m κ)) ver sz j fun r => evK (todo (((r.drop off).take 2).map A.v)) fun cs => K (.ag cs)) := loadK_paB agg_implRule sz_implRule
attribute [go_sem] ld_implRule ti_implRule lp_implRule
theorem fp_implRule_0 {cs : List Value} {K : AV → Prop} : onO (fieldAddrS Tryz.prog 37 0 (.at (.pi cs))) K = evK (todo (cs.drop 0)) (fun c => K (.at (.pi c))) := fa_pi (fd := ⟨ "Most", 3, 0, false, "", "", 0⟩) Tryz.underlying37 rfl sz_int
theorem fo_implRule_0 {κ ver sz i off : Nat} {K : AV → Prop} : onO (fieldAddrS Tryz.prog 37 0 (.at (.pa κ ver sz i off))) K = evK (todo (off + 0)) (fun o => K (.at (.pa κ ver sz i o))) := fa_pa (fd := ⟨ "Most", 3, 0, false, "", "", 0⟩) Tryz.underlying37 rfl sz_int
theorem fb_implRule_0 {κ ver off : Nat} {K : AV → Prop} : onO (fieldAddrS Tryz.prog 37 0 (.at (.bx κ ver off))) K = evK (todo (off + 0)) (fun o => K (.at (.bx κ ver o))) := fa_bx (fd := ⟨ "Most", 3, 0, false, "", "", 0⟩) Tryz.underlying37 rfl sz_int
theorem fg_implRule_0 {cs : List A} {K : AV → Prop} : onR (fieldS Tryz.prog 37 0 (.ag cs)) K = onO (todo cs[0]?) fun a => K (.at a) := field_1K (fd := ⟨ "Most", 3, 0, false, "", "", 0⟩) Tryz.underlying37 rfl agg_int
attribute [go_sem] fp_implRule_0 fo_implRule_0 fb_implRule_0 fg_implRule_0
theorem fp_implRule_1 {cs : List Value} {K : AV → Prop} : onO (fieldAddrS Tryz.prog 37 1 (.at (.pi cs))) K = evK (todo (cs.drop 1)) (fun c => K (.at (.pi c))) := fa_pi (fd := ⟨ "Window", 3, 1, false, "", "", 8⟩) Tryz.underlying37 rfl sz_int
theorem fo_implRule_1 {κ ver sz i off : Nat} {K : AV → Prop} : onO (fieldAddrS Tryz.prog 37 1 (.at (.pa κ ver sz i off))) K = evK (todo (off + 1)) (fun o => K (.at (.pa κ ver sz i o))) := fa_pa (fd := ⟨ "Window", 3, 1, false, "", "", 8⟩) Tryz.underlying37 rfl sz_int
theorem fb_implRule_1 {κ ver off : Nat} {K : AV → Prop} : onO (fieldAddrS Tryz.prog 37 1 (.at (.bx κ ver off))) K = evK (todo (off + 1)) (fun o => K (.at (.bx κ ver o))) := fa_bx (fd := ⟨ "Window", 3, 1, false, "", "", 8⟩) Tryz.underlying37 rfl sz_int
theorem fg_implRule_1 {cs : List A} {K : AV → Prop} : onR (fieldS Tryz.prog 37 1 (.ag cs)) K = onO (todo cs[1]?) fun a => K (.at a) := field_1K (fd := ⟨ "Window", 3, 1, false, "", "", 8⟩) Tryz.underlying37 rfl agg_int
attribute [go_sem] fp_implRule_1 fo_implRule_1 fb_implRule_1 fg_implRule_1
theorem lb_implRule {m : Mem} {κ ver off : Nat} {K : AV → Prop} : onR (loadS Tryz.prog 37 m (.at (.bx κ ver off))) K = boxAt (todo (m κ)) ver fun cells => off + 2 ≤ cells.length ∧ evK (todo ((cells.drop off).take 2)) fun cs => K (.ag cs) := load_bxKN agg_implRule sz_implRule
theorem sb_implRule {m : Mem} {κ ver off : Nat} {X : AV} {K : Mem → Prop} : onR (storeS Tryz.prog 37 m (.at (.bx κ ver off)) X) K = boxAt (todo (m κ)) ver fun cells => onO (todo (atomsOf X)) fun new => new.length = 2 ∧ off + 2 ≤ cells.length ∧ evK (todo (splice cells off new)) fun cs => K (upd m κ (.box ver cs)) := store_bxK sz_implRule
theorem sp_implRule {m : Mem} {κ ver sz j off : Nat} {X : AV} {K : Mem → Prop} : onR (storeS Tryz.prog 37 m (.at (.pa κ ver sz j off)) X) K = arrAt (todo (m κ)) ver sz fun rows => onO (todo ((atomsOf X).bind valsOf)) fun us => us.length = 2 ∧ (j < rows.length ∧ off + 2 ≤ sz) ∧ evK (todo (rows.set j (splice (rows.getD j []) off us))) fun rs => K (upd m κ (.arr ver sz rs)) := store_paK sz_implRule
attribute [go_sem] lb_implRule sb_implRule sp_implRule
theorem agg_implMember : aggT Tryz.prog 140 = some true := by kernel_rfl
theorem sz_implMember : szT Tryz.prog 140 = some 4 := by kernel_rfl
theorem by_implMember : (Tryz.prog.info? 140).map (·.bytes) = some 32 := by kernel_rfl
theorem zv_implMember : zeroVals Tryz.prog 140 = some [.int .i64 0, .int .i64 0, .int .i64 0, .bool false] := by kernel_rfl
theorem za_implMember : zeroAtoms Tryz.prog 140 = some [.v (.int .i64 0), .v (.int .i64 0), .v (.int .i64 0), .v (.bool false)] := by kernel_rfl
attribute [go_sem] za_implMember sz_implMember
theorem ld_implMember {m : Mem} {cs : List Value} {K : AV → Prop} : onR (loadS Tryz.prog 140 m (.at (.pi cs))) K = (4 ≤ cs.length ∧ evK (todo ((cs.take 4).map A.v)) fun cs => K (.ag cs)) := load_piN agg_implMember sz_implMember
theorem ti_implMember : tiOf Tryz.prog 140 = some ⟨[⟨ "Id", 3, 0, false, "", "", 0⟩, ⟨ "Strength", 3, 1, false, "", "", 8⟩, ⟨ "Need", 3, 2, false, "", "", 16⟩, ⟨ "Ill", 4, 3, false, "", "", 24⟩], [.v (.int .i64 0), .v (.int .i64 0), .v (.int .i64 0), .v (.bool false)]⟩ := by kernel_rfl
theorem lp_implMember {κ ver sz j off : Nat} {m : Mem} {K : AV → Prop} : loadK Tryz.prog 140 m (.at (.pa κ ver sz j off)) K = (off + 4 ≤ sz ∧ rowAt (todo (m κ)) ver sz j fun r => evK (todo (((r.drop off).take 4).map A.v)) fun cs => K (.ag cs)) := loadK_paB agg_implMember sz_implMember
attribute [go_sem] ld_implMember ti_implMember lp_implMember
theorem fp_implMember_0 {cs : List Value} {K : AV → Prop} : onO (fieldAddrS Tryz.prog 140 0 (.at (.pi cs))) K = evK (todo (cs.drop 0)) (fun c => K (.at (.pi c))) := fa_pi (fd := ⟨ "Id", 3, 0, false, "", "", 0⟩) Tryz.underlying140 rfl sz_int
theorem fo_implMember_0 {κ ver sz i off : Nat} {K : AV → Prop} : onO (fieldAddrS Tryz.prog 140 0 (.at (.pa κ ver sz i off))) K = evK (todo (off + 0)) (fun o => K (.at (.pa κ ver sz i o))) := fa_pa (fd := ⟨ "Id", 3, 0, false, "", "", 0⟩) Tryz.underlying140 rfl sz_int
theorem fb_implMember_0 {κ ver off : Nat} {K : AV → Prop} : onO (fieldAddrS Tryz.prog 140 0 (.at (.bx κ ver off))) K = evK (todo (off + 0)) (fun o => K (.at (.bx κ ver o))) := fa_bx (fd := ⟨ "Id", 3, 0, false, "", "", 0⟩) Tryz.underlying140 rfl sz_int
theorem fg_implMember_0 {cs : List A} {K : AV → Prop} : onR (fieldS Tryz.prog 140 0 (.ag cs)) K = onO (todo cs[0]?) fun a => K (.at a) := field_1K (fd := ⟨ "Id", 3, 0, false, "", "", 0⟩) Tryz.underlying140 rfl agg_int
attribute [go_sem] fp_implMember_0 fo_implMember_0 fb_implMember_0 fg_implMember_0
theorem fp_implMember_1 {cs : List Value} {K : AV → Prop} : onO (fieldAddrS Tryz.prog 140 1 (.at (.pi cs))) K = evK (todo (cs.drop 1)) (fun c => K (.at (.pi c))) := fa_pi (fd := ⟨ "Strength", 3, 1, false, "", "", 8⟩) Tryz.underlying140 rfl sz_int
theorem fo_implMember_1 {κ ver sz i off : Nat} {K : AV → Prop} : onO (fieldAddrS Tryz.prog 140 1 (.at (.pa κ ver sz i off))) K = evK (todo (off + 1)) (fun o => K (.at (.pa κ ver sz i o))) := fa_pa (fd := ⟨ "Strength", 3, 1, false, "", "", 8⟩) Tryz.underlying140 rfl sz_int
theorem fb_implMember_1 {κ ver off : Nat} {K : AV → Prop} : onO (fieldAddrS Tryz.prog 140 1 (.at (.bx κ ver off))) K = evK (todo (off + 1)) (fun o => K (.at (.bx κ ver o))) := fa_bx (fd := ⟨ "Strength", 3, 1, false, "", "", 8⟩) Tryz.underlying140 rfl sz_int
theorem fg_implMember_1 {cs : List A} {K : AV → Prop} : onR (fieldS Tryz.prog 140 1 (.ag cs)) K = onO (todo cs[1]?) fun a => K (.at a) := field_1K (fd := ⟨ "Strength", 3, 1, false, "", "", 8⟩) Tryz.underlying140 rfl agg_int
attribute [go_sem] fp_implMember_1 fo_implMember_1 fb_implMember_1 fg_implMember_1
theorem fp_implMember_2 {cs : List Value} {K : AV → Prop} : onO (fieldAddrS Tryz.prog 140 2 (.at (.pi cs))) K = evK (todo (cs.drop 2)) (fun c => K (.at (.pi c))) := fa_pi (fd := ⟨ "Need", 3, 2, false, "", "", 16⟩) Tryz.underlying140 rfl sz_int
theorem fo_implMember_2 {κ ver sz i off : Nat} {K : AV → Prop} : onO (fieldAddrS Tryz.prog 140 2 (.at (.pa κ ver sz i off))) K = evK (todo (off + 2)) (fun o => K (.at (.pa κ ver sz i o))) := fa_pa (fd := ⟨ "Need", 3, 2, false, "", "", 16⟩) Tryz.underlying140 rfl sz_int
theorem fb_implMember_2 {κ ver off : Nat} {K : AV → Prop} : onO (fieldAddrS Tryz.prog 140 2 (.at (.bx κ ver off))) K = evK (todo (off + 2)) (fun o => K (.at (.bx κ ver o))) := fa_bx (fd := ⟨ "Need", 3, 2, false, "", "", 16⟩) Tryz.underlying140 rfl sz_int
theorem fg_implMember_2 {cs : List A} {K : AV → Prop} : onR (fieldS Tryz.prog 140 2 (.ag cs)) K = onO (todo cs[2]?) fun a => K (.at a) := field_1K (fd := ⟨ "Need", 3, 2, false, "", "", 16⟩) Tryz.underlying140 rfl agg_int
attribute [go_sem] fp_implMember_2 fo_implMember_2 fb_implMember_2 fg_implMember_2
theorem fp_implMember_3 {cs : List Value} {K : AV → Prop} : onO (fieldAddrS Tryz.prog 140 3 (.at (.pi cs))) K = evK (todo (cs.drop 3)) (fun c => K (.at (.pi c))) := fa_pi (fd := ⟨ "Ill", 4, 3, false, "", "", 24⟩) Tryz.underlying140 rfl sz_bool
theorem fo_implMember_3 {κ ver sz i off : Nat} {K : AV → Prop} : onO (fieldAddrS Tryz.prog 140 3 (.at (.pa κ ver sz i off))) K = evK (todo (off + 3)) (fun o => K (.at (.pa κ ver sz i o))) := fa_pa (fd := ⟨ "Ill", 4, 3, false, "", "", 24⟩) Tryz.underlying140 rfl sz_bool
theorem fb_implMember_3 {κ ver off : Nat} {K : AV → Prop} : onO (fieldAddrS Tryz.prog 140 3 (.at (.bx κ ver off))) K = evK (todo (off + 3)) (fun o => K (.at (.bx κ ver o))) := fa_bx (fd := ⟨ "Ill", 4, 3, false, "", "", 24⟩) Tryz.underlying140 rfl sz_bool
theorem fg_implMember_3 {cs : List A} {K : AV → Prop} : onR (fieldS Tryz.prog 140 3 (.ag cs)) K = onO (todo cs[3]?) fun a => K (.at a) := field_1K (fd := ⟨ "Ill", 4, 3, false, "", "", 24⟩) Tryz.underlying140 rfl agg_bool
attribute [go_sem] fp_implMember_3 fo_implMember_3 fb_implMember_3 fg_implMember_3
theorem lb_implMember {m : Mem} {κ ver off : Nat} {K : AV → Prop} : onR (loadS Tryz.prog 140 m (.at (.bx κ ver off))) K = boxAt (todo (m κ)) ver fun cells => off + 4 ≤ cells.length ∧ evK (todo ((cells.drop off).take 4)) fun cs => K (.ag cs) := load_bxKN agg_implMember sz_implMember
theorem sb_implMember {m : Mem} {κ ver off : Nat} {X : AV} {K : Mem → Prop} : onR (storeS Tryz.prog 140 m (.at (.bx κ ver off)) X) K = boxAt (todo (m κ)) ver fun cells => onO (todo (atomsOf X)) fun new => new.length = 4 ∧ off + 4 ≤ cells.length ∧ evK (todo (splice cells off new)) fun cs => K (upd m κ (.box ver cs)) := store_bxK sz_implMember
theorem sp_implMember {m : Mem} {κ ver sz j off : Nat} {X : AV} {K : Mem → Prop} : onR (storeS Tryz.prog 140 m (.at (.pa κ ver sz j off)) X) K = arrAt (todo (m κ)) ver sz fun rows => onO (todo ((atomsOf X).bind valsOf)) fun us => us.length = 4 ∧ (j < rows.length ∧ off + 4 ≤ sz) ∧ evK (todo (rows.set j (splice (rows.getD j []) off us))) fun rs => K (upd m κ (.arr ver sz rs)) := store_paK sz_implMember
attribute [go_sem] lb_implMember sb_implMember sp_implMember
theorem und_implMemberS : Tryz.prog.underlying 39 = some (.slice 140) := Tryz.underlying39
theorem agg_implMemberS : aggT Tryz.prog 39 = some false := by kernel_rfl
theorem sz_implMemberS : szT Tryz.prog 39 = some 1 := by kernel_rfl
theorem ix_implMemberS {rows : List (List Value)} {k : IntKind} {i : Int} {K : AV → Prop} : onR (indexAddrS Tryz.prog 39 (.at (.im 4 rows)) (.at (.v (.int k i)))) K = ((0 ≤ i ∧ i < (rows.length : Int)) ∧ ∀ r, rows[i.toNat]? = some r → K (.at (.pi r))) := idx_im und_implMemberS sz_implMember
theorem io_implMemberS {κ ver n : Nat} {k : IntKind} {i : Int} {K : AV → Prop} : onR (indexAddrS Tryz.prog 39 (.at (.ow κ ver 4 n)) (.at (.v (.int k i)))) K = ((0 ≤ i ∧ i < (n : Int)) ∧ evK (todo i.toNat) fun j => K (.at (.pa κ ver 4 j 0))) := idx_ow und_implMemberS sz_implMember
theorem ln_implMemberS {sz : Nat} {rows : List (List Value)} {K : Value → Prop} : onO (lenS Tryz.prog 39 (.at (.im sz rows))) K = K (.int .i64 rows.length) := len_im und_implMemberS
theorem lo_implMemberS {κ ver sz n : Nat} {K : Value → Prop} : onO (lenS Tryz.prog 39 (.at (.ow κ ver sz n))) K = K (.int .i64 n) := len_ow und_implMemberS
theorem lz_implMemberS {K : Value → Prop} : onO (lenS Tryz.prog 39 (.at .nil)) K = K (.int .i64 0) := len_nil und_implMemberS
theorem si_implMemberS : siOf Tryz.prog 39 = some ⟨140, 4, 32, [.int .i64 0, .int .i64 0, .int .i64 0, .bool false]⟩ := by kernel_rfl
theorem ci_implMemberS {nx : Nat} {q : Qm} {t : Nat → AV} {m : Mem} {rows : List (List Value)} {lo hi : Option Operand} {K : AV → Mem → Prop} : onM (sliceS Tryz.prog nx q 39 ⟨t, m⟩ (.at (.im 4 rows)) lo hi none) K = onO (todo (boundS ⟨t, m⟩ lo 0)) fun l => onO (todo (boundS ⟨t, m⟩ hi rows.length)) fun h => (0 ≤ l ∧ l ≤ h ∧ h ≤ (rows.length : Int)) ∧ evK (todo ((rows.drop l.toNat).take (h.toNat - l.toNat))) fun rs => K (.at (.im 4 rs)) m := cut_im_k und_implMemberS sz_implMember
theorem cn_implMemberS {nx : Nat} {q : Qm} {t : Nat → AV} {m : Mem} {lo hi : Option Operand} {K : AV → Mem → Prop} : onM (sliceS Tryz.prog nx q 39 ⟨t, m⟩ (.at .nil) lo hi none) K = onO (todo (boundS ⟨t, m⟩ lo 0)) fun l => onO (todo (boundS ⟨t, m⟩ hi 0)) fun h => (l = 0 ∧ h = 0) ∧ K (.at .nil) m := cut_nil_k und_implMemberS sz_implMember
attribute [go_sem] ix_implMemberS io_implMemberS ln_implMemberS lo_implMemberS lz_implMemberS si_implMemberS ci_implMemberS cn_implMemberS
attribute [go_sem] sz_implMemberS
theorem lb_implMemberS {m : Mem} {κ ver off : Nat} {K : AV → Prop} : onR (loadS Tryz.prog 39 m (.at (.bx κ ver off))) K = boxAt (todo (m κ)) ver fun cells => onO (todo cells[off]?) fun a => K (.at a) := load_bxK1 agg_implMemberS
theorem sb_implMemberS {m : Mem} {κ ver off : Nat} {X : AV} {K : Mem → Prop} : onR (storeS Tryz.prog 39 m (.at (.bx κ ver off)) X) K = boxAt (todo (m κ)) ver fun cells => onO (todo (atomsOf X)) fun new => new.length = 1 ∧ off + 1 ≤ cells.length ∧ evK (todo (splice cells off new)) fun cs => K (upd m κ (.box ver cs)) := store_bxK sz_implMemberS
theorem sp_implMemberS {m : Mem} {κ ver sz j off : Nat} {X : AV} {K : Mem → Prop} : onR (storeS Tryz.prog 39 m (.at (.pa κ ver sz j off)) X) K = arrAt (todo (m κ)) ver sz fun rows => onO (todo ((atomsOf X).bind valsOf)) fun us => us.length = 1 ∧ (j < rows.length ∧ off + 1 ≤ sz) ∧ evK (todo (rows.set j (splice (rows.getD j []) off us))) fun rs => K (upd m κ (.arr ver sz rs)) := store_paK sz_implMemberS
attribute [go_sem] lb_implMemberS sb_implMemberS sp_implMemberS
theorem agg_implDepot : aggT Tryz.prog 147 = some true := by kernel_rfl
theorem sz_implDepot : szT Tryz.prog 147 = some 2 := by kernel_rfl
theorem by_implDepot : (Tryz.prog.info? 147).map (·.bytes) = some 16 := by kernel_rfl
theorem zv_implDepot : zeroVals Tryz.prog 147 = some [.int .i64 0, .int .i64 0] := by kernel_rfl
theorem za_implDepot : zeroAtoms Tryz.prog 147 = some [.v (.int .i64 0), .v (.int .i64 0)] := by kernel_rfl
attribute [go_sem] za_implDepot sz_implDepot
theorem ld_implDepot {m : Mem} {cs : List Value} {K : AV → Prop} : onR (loadS Tryz.prog 147 m (.at (.pi cs))) K = (2 ≤ cs.length ∧ evK (todo ((cs.take 2).map A.v)) fun cs => K (.ag cs)) := load_piN agg_implDepot sz_implDepot
theorem ti_implDepot : tiOf Tryz.prog 147 = some ⟨[⟨ "Cell", 3, 0, false, "", "", 0⟩, ⟨ "Food", 3, 1, false, "", "", 8⟩], [.v (.int .i64 0), .v (.int .i64 0)]⟩ := by kernel_rfl
theorem lp_implDepot {κ ver sz j off : Nat} {m : Mem} {K : AV → Prop} : loadK Tryz.prog 147 m (.at (.pa κ ver sz j off)) K = (off + 2 ≤ sz ∧ rowAt (todo (m κ)) ver sz j fun r => evK (todo (((r.drop off).take 2).map A.v)) fun cs => K (.ag cs)) := loadK_paB agg_implDepot sz_implDepot
attribute [go_sem] ld_implDepot ti_implDepot lp_implDepot
theorem fp_implDepot_0 {cs : List Value} {K : AV → Prop} : onO (fieldAddrS Tryz.prog 147 0 (.at (.pi cs))) K = evK (todo (cs.drop 0)) (fun c => K (.at (.pi c))) := fa_pi (fd := ⟨ "Cell", 3, 0, false, "", "", 0⟩) Tryz.underlying147 rfl sz_int
theorem fo_implDepot_0 {κ ver sz i off : Nat} {K : AV → Prop} : onO (fieldAddrS Tryz.prog 147 0 (.at (.pa κ ver sz i off))) K = evK (todo (off + 0)) (fun o => K (.at (.pa κ ver sz i o))) := fa_pa (fd := ⟨ "Cell", 3, 0, false, "", "", 0⟩) Tryz.underlying147 rfl sz_int
theorem fb_implDepot_0 {κ ver off : Nat} {K : AV → Prop} : onO (fieldAddrS Tryz.prog 147 0 (.at (.bx κ ver off))) K = evK (todo (off + 0)) (fun o => K (.at (.bx κ ver o))) := fa_bx (fd := ⟨ "Cell", 3, 0, false, "", "", 0⟩) Tryz.underlying147 rfl sz_int
theorem fg_implDepot_0 {cs : List A} {K : AV → Prop} : onR (fieldS Tryz.prog 147 0 (.ag cs)) K = onO (todo cs[0]?) fun a => K (.at a) := field_1K (fd := ⟨ "Cell", 3, 0, false, "", "", 0⟩) Tryz.underlying147 rfl agg_int
attribute [go_sem] fp_implDepot_0 fo_implDepot_0 fb_implDepot_0 fg_implDepot_0
theorem fp_implDepot_1 {cs : List Value} {K : AV → Prop} : onO (fieldAddrS Tryz.prog 147 1 (.at (.pi cs))) K = evK (todo (cs.drop 1)) (fun c => K (.at (.pi c))) := fa_pi (fd := ⟨ "Food", 3, 1, false, "", "", 8⟩) Tryz.underlying147 rfl sz_int
theorem fo_implDepot_1 {κ ver sz i off : Nat} {K : AV → Prop} : onO (fieldAddrS Tryz.prog 147 1 (.at (.pa κ ver sz i off))) K = evK (todo (off + 1)) (fun o => K (.at (.pa κ ver sz i o))) := fa_pa (fd := ⟨ "Food", 3, 1, false, "", "", 8⟩) Tryz.underlying147 rfl sz_int
theorem fb_implDepot_1 {κ ver off : Nat} {K : AV → Prop} : onO (fieldAddrS Tryz.prog 147 1 (.at (.bx κ ver off))) K = evK (todo (off + 1)) (fun o => K (.at (.bx κ ver o))) := fa_bx (fd := ⟨ "Food", 3, 1, false, "", "", 8⟩) Tryz.underlying147 rfl sz_int
theorem fg_implDepot_1 {cs : List A} {K : AV → Prop} : onR (fieldS Tryz.prog 147 1 (.ag cs)) K = onO (todo cs[1]?) fun a => K (.at a) := field_1K (fd := ⟨ "Food", 3, 1, false, "", "", 8⟩) Tryz.underlying147 rfl agg_int
attribute [go_sem] fp_implDepot_1 fo_implDepot_1 fb_implDepot_1 fg_implDepot_1
theorem lb_implDepot {m : Mem} {κ ver off : Nat} {K : AV → Prop} : onR (loadS Tryz.prog 147 m (.at (.bx κ ver off))) K = boxAt (todo (m κ)) ver fun cells => off + 2 ≤ cells.length ∧ evK (todo ((cells.drop off).take 2)) fun cs => K (.ag cs) := load_bxKN agg_implDepot sz_implDepot
theorem sb_implDepot {m : Mem} {κ ver off : Nat} {X : AV} {K : Mem → Prop} : onR (storeS Tryz.prog 147 m (.at (.bx κ ver off)) X) K = boxAt (todo (m κ)) ver fun cells => onO (todo (atomsOf X)) fun new => new.length = 2 ∧ off + 2 ≤ cells.length ∧ evK (todo (splice cells off new)) fun cs => K (upd m κ (.box ver cs)) := store_bxK sz_implDepot
theorem sp_implDepot {m : Mem} {κ ver sz j off : Nat} {X : AV} {K : Mem → Prop} : onR (storeS Tryz.prog 147 m (.at (.pa κ ver sz j off)) X) K = arrAt (todo (m κ)) ver sz fun rows => onO (todo ((atomsOf X).bind valsOf)) fun us => us.length = 2 ∧ (j < rows.length ∧ off + 2 ≤ sz) ∧ evK (todo (rows.set j (splice (rows.getD j []) off us))) fun rs => K (upd m κ (.arr ver sz rs)) := store_paK sz_implDepot
attribute [go_sem] lb_implDepot sb_implDepot sp_implDepot
theorem und_implDepotS : Tryz.prog.underlying 38 = some (.slice 147) := Tryz.underlying38
theorem agg_implDepotS : aggT Tryz.prog 38 = some false := by kernel_rfl
theorem sz_implDepotS : szT Tryz.prog 38 = some 1 := by kernel_rfl
theorem ix_implDepotS {rows : List (List Value)} {k : IntKind} {i : Int} {K : AV → Prop} : onR (indexAddrS Tryz.prog 38 (.at (.im 2 rows)) (.at (.v (.int k i)))) K = ((0 ≤ i ∧ i < (rows.length : Int)) ∧ ∀ r, rows[i.toNat]? = some r → K (.at (.pi r))) := idx_im und_implDepotS sz_implDepot
theorem io_implDepotS {κ ver n : Nat} {k : IntKind} {i : Int} {K : AV → Prop} : onR (indexAddrS Tryz.prog 38 (.at (.ow κ ver 2 n)) (.at (.v (.int k i)))) K = ((0 ≤ i ∧ i < (n : Int)) ∧ evK (todo i.toNat) fun j => K (.at (.pa κ ver 2 j 0))) := idx_ow und_implDepotS sz_implDepot
theorem ln_implDepotS {sz : Nat} {rows : List (List Value)} {K : Value → Prop} : onO (lenS Tryz.prog 38 (.at (.im sz rows))) K = K (.int .i64 rows.length) := len_im und_implDepotS
theorem lo_implDepotS {κ ver sz n : Nat} {K : Value → Prop} : onO (lenS Tryz.prog 38 (.at (.ow κ ver sz n))) K = K (.int .i64 n) := len_ow und_implDepotS
theorem lz_implDepotS {K : Value → Prop} : onO (lenS Tryz.prog 38 (.at .nil)) K = K (.int .i64 0) := len_nil und_implDepotS
theorem si_implDepotS : siOf Tryz.prog 38 = some ⟨147, 2, 16, [.int .i64 0, .int .i64 0]⟩ := by kernel_rfl
theorem ci_implDepotS {nx : Nat} {q : Qm} {t : Nat → AV} {m : Mem} {rows : List (List Value)} {lo hi : Option Operand} {K : AV → Mem → Prop} : onM (sliceS Tryz.prog nx q 38 ⟨t, m⟩ (.at (.im 2 rows)) lo hi none) K = onO (todo (boundS ⟨t, m⟩ lo 0)) fun l => onO (todo (boundS ⟨t, m⟩ hi rows.length)) fun h => (0 ≤ l ∧ l ≤ h ∧ h ≤ (rows.length : Int)) ∧ evK (todo ((rows.drop l.toNat).take (h.toNat - l.toNat))) fun rs => K (.at (.im 2 rs)) m := cut_im_k und_implDepotS sz_implDepot
theorem cn_implDepotS {nx : Nat} {q : Qm} {t : Nat → AV} {m : Mem} {lo hi : Option Operand} {K : AV → Mem → Prop} : onM (sliceS Tryz.prog nx q 38 ⟨t, m⟩ (.at .nil) lo hi none) K = onO (todo (boundS ⟨t, m⟩ lo 0)) fun l => onO (todo (boundS ⟨t, m⟩ hi 0)) fun h => (l = 0 ∧ h = 0) ∧ K (.at .nil) m := cut_nil_k und_implDepotS sz_implDepot
attribute [go_sem] ix_implDepotS io_implDepotS ln_implDepotS lo_implDepotS lz_implDepotS si_implDepotS ci_implDepotS cn_implDepotS
attribute [go_sem] sz_implDepotS
theorem lb_implDepotS {m : Mem} {κ ver off : Nat} {K : AV → Prop} : onR (loadS Tryz.prog 38 m (.at (.bx κ ver off))) K = boxAt (todo (m κ)) ver fun cells => onO (todo cells[off]?) fun a => K (.at a) := load_bxK1 agg_implDepotS
theorem sb_implDepotS {m : Mem} {κ ver off : Nat} {X : AV} {K : Mem → Prop} : onR (storeS Tryz.prog 38 m (.at (.bx κ ver off)) X) K = boxAt (todo (m κ)) ver fun cells => onO (todo (atomsOf X)) fun new => new.length = 1 ∧ off + 1 ≤ cells.length ∧ evK (todo (splice cells off new)) fun cs => K (upd m κ (.box ver cs)) := store_bxK sz_implDepotS
theorem sp_implDepotS {m : Mem} {κ ver sz j off : Nat} {X : AV} {K : Mem → Prop} : onR (storeS Tryz.prog 38 m (.at (.pa κ ver sz j off)) X) K = arrAt (todo (m κ)) ver sz fun rows => onO (todo ((atomsOf X).bind valsOf)) fun us => us.length = 1 ∧ (j < rows.length ∧ off + 1 ≤ sz) ∧ evK (todo (rows.set j (splice (rows.getD j []) off us))) fun rs => K (upd m κ (.arr ver sz rs)) := store_paK sz_implDepotS
attribute [go_sem] lb_implDepotS sb_implDepotS sp_implDepotS
theorem agg_implParty : aggT Tryz.prog 41 = some true := by kernel_rfl
theorem sz_implParty : szT Tryz.prog 41 = some 4 := by kernel_rfl
theorem by_implParty : (Tryz.prog.info? 41).map (·.bytes) = some 64 := by kernel_rfl
theorem zv_implParty : zeroVals Tryz.prog 41 = some [.int .i64 0, .int .i64 0, .slice none 0 0, .slice none 0 0] := by kernel_rfl
theorem za_implParty : zeroAtoms Tryz.prog 41 = some [.v (.int .i64 0), .v (.int .i64 0), .nil, .nil] := by kernel_rfl
attribute [go_sem] za_implParty sz_implParty
theorem ld_implParty {m : Mem} {cs : List Value} {K : AV → Prop} : onR (loadS Tryz.prog 41 m (.at (.pi cs))) K = (4 ≤ cs.length ∧ evK (todo ((cs.take 4).map A.v)) fun cs => K (.ag cs)) := load_piN agg_implParty sz_implParty
theorem ti_implParty : tiOf Tryz.prog 41 = some ⟨[⟨ "At", 3, 0, false, "", "", 0⟩, ⟨ "Food", 3, 1, false, "", "", 8⟩, ⟨ "Crew", 39, 2, false, "", "", 16⟩, ⟨ "Past", 29, 3, false, "", "", 40⟩], [.v (.int .i64 0), .v (.int .i64 0), .nil, .nil]⟩ := by kernel_rfl
theorem lp_implParty {κ ver sz j off : Nat} {m : Mem} {K : AV → Prop} : loadK Tryz.prog 41 m (.at (.pa κ ver sz j off)) K = (off + 4 ≤ sz ∧ rowAt (todo (m κ)) ver sz j fun r => evK (todo (((r.drop off).take 4).map A.v)) fun cs => K (.ag cs)) := loadK_paB agg_implParty sz_implParty
attribute [go_sem] ld_implParty ti_implParty lp_implParty
theorem fp_implParty_0 {cs : List Value} {K : AV → Prop} : onO (fieldAddrS Tryz.prog 41 0 (.at (.pi cs))) K = evK (todo (cs.drop 0)) (fun c => K (.at (.pi c))) := fa_pi (fd := ⟨ "At", 3, 0, false, "", "", 0⟩) Tryz.underlying41 rfl sz_int
theorem fo_implParty_0 {κ ver sz i off : Nat} {K : AV → Prop} : onO (fieldAddrS Tryz.prog 41 0 (.at (.pa κ ver sz i off))) K = evK (todo (off + 0)) (fun o => K (.at (.pa κ ver sz i o))) := fa_pa (fd := ⟨ "At", 3, 0, false, "", "", 0⟩) Tryz.underlying41 rfl sz_int
theorem fb_implParty_0 {κ ver off : Nat} {K : AV → Prop} : onO (fieldAddrS Tryz.prog 41 0 (.at (.bx κ ver off))) K = evK (todo (off + 0)) (fun o => K (.at (.bx κ ver o))) := fa_bx (fd := ⟨ "At", 3, 0, false, "", "", 0⟩) Tryz.underlying41 rfl sz_int
theorem fg_implParty_0 {cs : List A} {K : AV → Prop} : onR (fieldS Tryz.prog 41 0 (.ag cs)) K = onO (todo cs[0]?) fun a => K (.at a) := field_1K (fd := ⟨ "At", 3, 0, false, "", "", 0⟩) Tryz.underlying41 rfl agg_int
attribute [go_sem] fp_implParty_0 fo_implParty_0 fb_implParty_0 fg_implParty_0
theorem fp_implParty_1 {cs : List Value} {K : AV → Prop} : onO (fieldAddrS Tryz.prog 41 1 (.at (.pi cs))) K = evK (todo (cs.drop 1)) (fun c => K (.at (.pi c))) := fa_pi (fd := ⟨ "Food", 3, 1, false, "", "", 8⟩) Tryz.underlying41 rfl sz_int
theorem fo_implParty_1 {κ ver sz i off : Nat} {K : AV → Prop} : onO (fieldAddrS Tryz.prog 41 1 (.at (.pa κ ver sz i off))) K = evK (todo (off + 1)) (fun o => K (.at (.pa κ ver sz i o))) := fa_pa (fd := ⟨ "Food", 3, 1, false, "", "", 8⟩) Tryz.underlying41 rfl sz_int
theorem fb_implParty_1 {κ ver off : Nat} {K : AV → Prop} : onO (fieldAddrS Tryz.prog 41 1 (.at (.bx κ ver off))) K = evK (todo (off + 1)) (fun o => K (.at (.bx κ ver o))) := fa_bx (fd := ⟨ "Food", 3, 1, false, "", "", 8⟩) Tryz.underlying41 rfl sz_int
theorem fg_implParty_1 {cs : List A} {K : AV → Prop} : onR (fieldS Tryz.prog 41 1 (.ag cs)) K = onO (todo cs[1]?) fun a => K (.at a) := field_1K (fd := ⟨ "Food", 3, 1, false, "", "", 8⟩) Tryz.underlying41 rfl agg_int
attribute [go_sem] fp_implParty_1 fo_implParty_1 fb_implParty_1 fg_implParty_1
theorem fp_implParty_2 {cs : List Value} {K : AV → Prop} : onO (fieldAddrS Tryz.prog 41 2 (.at (.pi cs))) K = evK (todo (cs.drop 2)) (fun c => K (.at (.pi c))) := fa_pi (fd := ⟨ "Crew", 39, 2, false, "", "", 16⟩) Tryz.underlying41 rfl sz_implMemberS
theorem fo_implParty_2 {κ ver sz i off : Nat} {K : AV → Prop} : onO (fieldAddrS Tryz.prog 41 2 (.at (.pa κ ver sz i off))) K = evK (todo (off + 2)) (fun o => K (.at (.pa κ ver sz i o))) := fa_pa (fd := ⟨ "Crew", 39, 2, false, "", "", 16⟩) Tryz.underlying41 rfl sz_implMemberS
theorem fb_implParty_2 {κ ver off : Nat} {K : AV → Prop} : onO (fieldAddrS Tryz.prog 41 2 (.at (.bx κ ver off))) K = evK (todo (off + 2)) (fun o => K (.at (.bx κ ver o))) := fa_bx (fd := ⟨ "Crew", 39, 2, false, "", "", 16⟩) Tryz.underlying41 rfl sz_implMemberS
theorem fg_implParty_2 {cs : List A} {K : AV → Prop} : onR (fieldS Tryz.prog 41 2 (.ag cs)) K = onO (todo cs[2]?) fun a => K (.at a) := field_1K (fd := ⟨ "Crew", 39, 2, false, "", "", 16⟩) Tryz.underlying41 rfl agg_implMemberS
attribute [go_sem] fp_implParty_2 fo_implParty_2 fb_implParty_2 fg_implParty_2
theorem fp_implParty_3 {cs : List Value} {K : AV → Prop} : onO (fieldAddrS Tryz.prog 41 3 (.at (.pi cs))) K = evK (todo (cs.drop 3)) (fun c => K (.at (.pi c))) := fa_pi (fd := ⟨ "Past", 29, 3, false, "", "", 40⟩) Tryz.underlying41 rfl sz_boolS
theorem fo_implParty_3 {κ ver sz i off : Nat} {K : AV → Prop} : onO (fieldAddrS Tryz.prog 41 3 (.at (.pa κ ver sz i off))) K = evK (todo (off + 3)) (fun o => K (.at (.pa κ ver sz i o))) := fa_pa (fd := ⟨ "Past", 29, 3, false, "", "", 40⟩) Tryz.underlying41 rfl sz_boolS
theorem fb_implParty_3 {κ ver off : Nat} {K : AV → Prop} : onO (fieldAddrS Tryz.prog 41 3 (.at (.bx κ ver off))) K = evK (todo (off + 3)) (fun o => K (.at (.bx κ ver o))) := fa_bx (fd := ⟨ "Past", 29, 3, false, "", "", 40⟩) Tryz.underlying41 rfl sz_boolS
theorem fg_implParty_3 {cs : List A} {K : AV → Prop} : onR (fieldS Tryz.prog 41 3 (.ag cs)) K = onO (todo cs[3]?) fun a => K (.at a) := field_1K (fd := ⟨ "Past", 29, 3, false, "", "", 40⟩) Tryz.underlying41 rfl agg_boolS
attribute [go_sem] fp_implParty_3 fo_implParty_3 fb_implParty_3 fg_implParty_3
theorem lb_implParty {m : Mem} {κ ver off : Nat} {K : AV → Prop} : onR (loadS Tryz.prog 41 m (.at (.bx κ ver off))) K = boxAt (todo (m κ)) ver fun cells => off + 4 ≤ cells.length ∧ evK (todo ((cells.drop off).take 4)) fun cs => K (.ag cs) := load_bxKN agg_implParty sz_implParty
theorem sb_implParty {m : Mem} {κ ver off : Nat} {X : AV} {K : Mem → Prop} : onR (storeS Tryz.prog 41 m (.at (.bx κ ver off)) X) K = boxAt (todo (m κ)) ver fun cells => onO (todo (atomsOf X)) fun new => new.length = 4 ∧ off + 4 ≤ cells.length ∧ evK (todo (splice cells off new)) fun cs => K (upd m κ (.box ver cs)) := store_bxK sz_implParty
theorem sp_implParty {m : Mem} {κ ver sz j off : Nat} {X : AV} {K : Mem → Prop} : onR (storeS Tryz.prog 41 m (.at (.pa κ ver sz j off)) X) K = arrAt (todo (m κ)) ver sz fun rows => onO (todo ((atomsOf X).bind valsOf)) fun us => us.length = 4 ∧ (j < rows.length ∧ off + 4 ≤ sz) ∧ evK (todo (rows.set j (splice (rows.getD j []) off us))) fun rs => K (upd m κ (.arr ver sz rs)) := store_paK sz_implParty
attribute [go_sem] lb_implParty sb_implParty sp_implParty
theorem agg_implTrek : aggT Tryz.prog 44 = some true := by kernel_rfl
theorem sz_implTrek : szT Tryz.prog 44 = some 15 := by kernel_rfl
theorem by_implTrek : (Tryz.prog.info? 44).map (·.bytes) = some 200 := by kernel_rfl
theorem zv_implTrek : zeroVals Tryz.prog 44 = some [.int .i64 0, .int .i64 0, .slice none 0 0, .int .i64 0, .int .i64 0, .int .i64 0, .slice none 0 0, .int .i64 0, .int .i64 0, .slice none 0 0, .slice none 0 0, .slice none 0 0, .int .i64 0, .int .i64 0, .int .i64 0] := by kernel_rfl
theorem za_implTrek : zeroAtoms Tryz.prog 44 = some [.v (.int .i64 0), .v (.int .i64 0), .nil, .v (.int .i64 0), .v (.int .i64 0), .v (.int .i64 0), .nil, .v (.int .i64 0), .v (.int .i64 0), .nil, .nil, .nil, .v (.int .i64 0), .v (.int .i64 0), .v (.int .i64 0)] := by kernel_rfl
attribute [go_sem] za_implTrek sz_implTrek
theorem ld_implTrek {m : Mem} {cs : List Value} {K : AV → Prop} : onR (loadS Tryz.prog 44 m (.at (.pi cs))) K = (15 ≤ cs.length ∧ evK (todo ((cs.take 15).map A.v)) fun cs => K (.ag cs)) := load_piN agg_implTrek sz_implTrek
theorem ti_implTrek : tiOf Tryz.prog 44 = some ⟨[⟨ "Land", 36, 0, false, "", "", 0⟩, ⟨ "Base", 3, 3, false, "", "", 40⟩, ⟨ "Rule", 37, 4, false, "", "", 48⟩, ⟨ "Depots", 38, 6, false, "", "", 64⟩, ⟨ "Party", 41, 7, false, "", "", 88⟩, ⟨ "Journal", 42, 11, false, "", "", 152⟩, ⟨ "Day", 3, 12, false, "", "", 176⟩, ⟨ "Given", 3, 13, false, "", "", 184⟩, ⟨ "Eaten", 3, 14, false, "", "", 192⟩], [.v (.int .i64 0), .v (.int .i64 0), .nil, .v (.int .i64 0), .v (.int .i64 0), .v (.int .i64 0), .nil, .v (.int .i64 0), .v (.int .i64 0), .nil, .nil, .nil, .v (.int .i64 0), .v (.int .i64 0), .v (.int .i64 0)]⟩ := by kernel_rfl
theorem lp_implTrek {κ ver sz j off : Nat} {m : Mem} {K : AV → Prop} : loadK Tryz.prog 44 m (.at (.pa κ ver sz j off)) K = (off + 15 ≤ sz ∧ rowAt (todo (m κ)) ver sz j fun r => evK (todo (((r.drop off).take 15).map A.v)) fun cs => K (.ag cs)) := loadK_paB agg_implTrek sz_implTrek
attribute [go_sem] ld_implTrek ti_implTrek lp_implTrek
theorem fp_implTrek_0 {cs : List Value} {K : AV → Prop} : onO (fieldAddrS Tryz.prog 44 0 (.at (.pi cs))) K = evK (todo (cs.drop 0)) (fun c => K (.at (.pi c))) := fa_pi (fd := ⟨ "Land", 36, 0, false, "", "", 0⟩) Tryz.underlying44 rfl sz_implLand
theorem fo_implTrek_0 {κ ver sz i off : Nat} {K : AV → Prop} : onO (fieldAddrS Tryz.prog 44 0 (.at (.pa κ ver sz i off))) K = evK (todo (off + 0)) (fun o => K (.at (.pa κ ver sz i o))) := fa_pa (fd := ⟨ "Land", 36, 0, false, "", "", 0⟩) Tryz.underlying44 rfl sz_implLand
theorem fb_implTrek_0 {κ ver off : Nat} {K : AV → Prop} : onO (fieldAddrS Tryz.prog 44 0 (.at (.bx κ ver off))) K = evK (todo (off + 0)) (fun o => K (.at (.bx κ ver o))) := fa_bx (fd := ⟨ "Land", 36, 0, false, "", "", 0⟩) Tryz.underlying44 rfl sz_implLand
theorem fg_implTrek_0 {cs : List A} {K : AV → Prop} : onR (fieldS Tryz.prog 44 0 (.ag cs)) K = (0 + 3 ≤ cs.length ∧ evK (todo ((cs.drop 0).take 3)) fun cs => K (.ag cs)) := field_N (fd := ⟨ "Land", 36, 0, false, "", "", 0⟩) Tryz.underlying44 rfl agg_implLand sz_implLand
attribute [go_sem] fp_implTrek_0 fo_implTrek_0 fb_implTrek_0 fg_implTrek_0
theorem fp_implTrek_1 {cs : List Value} {K : AV → Prop} : onO (fieldAddrS Tryz.prog 44 1 (.at (.pi cs))) K = evK (todo (cs.drop 3)) (fun c => K (.at (.pi c))) := fa_pi (fd := ⟨ "Base", 3, 3, false, "", "", 40⟩) Tryz.underlying44 rfl sz_int
theorem fo_implTrek_1 {κ ver sz i off : Nat} {K : AV → Prop} : onO (fieldAddrS Tryz.prog 44 1 (.at (.pa κ ver sz i off))) K = evK (todo (off + 3)) (fun o => K (.at (.pa κ ver sz i o))) := fa_pa (fd := ⟨ "Base", 3, 3, false, "", "", 40⟩) Tryz.underlying44 rfl sz_int
theorem fb_implTrek_1 {κ ver off : Nat} {K : AV → Prop} : onO (fieldAddrS Tryz.prog 44 1 (.at (.bx κ ver off))) K = evK (todo (off + 3)) (fun o => K (.at (.bx κ ver o))) := fa_bx (fd := ⟨ "Base", 3, 3, false, "", "", 40⟩) Tryz.underlying44 rfl sz_int
theorem fg_implTrek_1 {cs : List A} {K : AV → Prop} : onR (fieldS Tryz.prog 44 1 (.ag cs)) K = onO (todo cs[3]?) fun a => K (.at a) := field_1K (fd := ⟨ "Base", 3, 3, false, "", "", 40⟩) Tryz.underlying44 rfl agg_int
attribute [go_sem] fp_implTrek_1 fo_implTrek_1 fb_implTrek_1 fg_implTrek_1
theorem fp_implTrek_2 {cs : List Value} {K : AV → Prop} : onO (fieldAddrS Tryz.prog 44 2 (.at (.pi cs))) K = evK (todo (cs.drop 4)) (fun c => K (.at (.pi c))) := fa_pi (fd := ⟨ "Rule", 37, 4, false, "", "", 48⟩) Tryz.underlying44 rfl sz_implRule
theorem fo_implTrek_2 {κ ver sz i off : Nat} {K : AV → Prop} : onO (fieldAddrS Tryz.prog 44 2 (.at (.pa κ ver sz i off))) K = evK (todo (off + 4)) (fun o => K (.at (.pa κ ver sz i o))) := fa_pa (fd := ⟨ "Rule", 37, 4, false, "", "", 48⟩) Tryz.underlying44 rfl sz_implRule
theorem fb_implTrek_2 {κ ver off : Nat} {K : AV → Prop} : onO (fieldAddrS Tryz.prog 44 2 (.at (.bx κ ver off))) K = evK (todo (off + 4)) (fun o => K (.at (.bx κ ver o))) := fa_bx (fd := ⟨ "Rule", 37, 4, false, "", "", 48⟩) Tryz.underlying44 rfl sz_implRule
theorem fg_implTrek_2 {cs : List A} {K : AV → Prop} : onR (fieldS Tryz.prog 44 2 (.ag cs)) K = (4 + 2 ≤ cs.length ∧ evK (todo ((cs.drop 4).take 2)) fun cs => K (.ag cs)) := field_N (fd := ⟨ "Rule", 37, 4, false, "", "", 48⟩) Tryz.underlying44 rfl agg_implRule sz_implRule
attribute [go_sem] fp_implTrek_2 fo_implTrek_2 fb_implTrek_2 fg_implTrek_2
theorem fp_implTrek_3 {cs : List Value} {K : AV → Prop} : onO (fieldAddrS Tryz.prog 44 3 (.at (.pi cs))) K = evK (todo (cs.drop 6)) (fun c => K (.at (.pi c))) := fa_pi (fd := ⟨ "Depots", 38, 6, false, "", "", 64⟩) Tryz.underlying44 rfl sz_implDepotS
theorem fo_implTrek_3 {κ ver sz i off : Nat} {K : AV → Prop} : onO (fieldAddrS Tryz.prog 44 3 (.at (.pa κ ver sz i off))) K = evK (todo (off + 6)) (fun o => K (.at (.pa κ ver sz i o))) := fa_pa (fd := ⟨ "Depots", 38, 6, false, "", "", 64⟩) Tryz.underlying44 rfl sz_implDepotS
theorem fb_implTrek_3 {κ ver off : Nat} {K : AV → Prop} : onO (fieldAddrS Tryz.prog 44 3 (.at (.bx κ ver off))) K = evK (todo (off + 6)) (fun o => K (.at (.bx κ ver o))) := fa_bx (fd := ⟨ "Depots", 38, 6, false, "", "", 64⟩) Tryz.underlying44 rfl sz_implDepotS
theorem fg_implTrek_3 {cs : List A} {K : AV → Prop} : onR (fieldS Tryz.prog 44 3 (.ag cs)) K = onO (todo cs[6]?) fun a => K (.at a) := field_1K (fd := ⟨ "Depots", 38, 6, false, "", "", 64⟩) Tryz.underlying44 rfl agg_implDepotS
attribute [go_sem] fp_implTrek_3 fo_implTrek_3 fb_implTrek_3 fg_implTrek_3
theorem fp_implTrek_4 {cs : List Value} {K : AV → Prop} : onO (fieldAddrS Tryz.prog 44 4 (.at (.pi cs))) K = evK (todo (cs.drop 7)) (fun c => K (.at (.pi c))) := fa_pi (fd := ⟨ "Party", 41, 7, false, "", "", 88⟩) Tryz.underlying44 rfl sz_implParty
theorem fo_implTrek_4 {κ ver sz i off : Nat} {K : AV → Prop} : onO (fieldAddrS Tryz.prog 44 4 (.at (.pa κ ver sz i off))) K = evK (todo (off + 7)) (fun o => K (.at (.pa κ ver sz i o))) := fa_pa (fd := ⟨ "Party", 41, 7, false, "", "", 88⟩) Tryz.underlying44 rfl sz_implParty
theorem fb_implTrek_4 {κ ver off : Nat} {K : AV → Prop} : onO (fieldAddrS Tryz.prog 44 4 (.at (.bx κ ver off))) K = evK (todo (off + 7)) (fun o => K (.at (.bx κ ver o))) := fa_bx (fd := ⟨ "Party", 41, 7, false, "", "", 88⟩) Tryz.underlying44 rfl sz_implParty
theorem fg_implTrek_4 {cs : List A} {K : AV → Prop} : onR (fieldS Tryz.prog 44 4 (.ag cs)) K = (7 + 4 ≤ cs.length ∧ evK (todo ((cs.drop 7).take 4)) fun cs => K (.ag cs)) := field_N (fd := ⟨ "Party", 41, 7, false, "", "", 88⟩) Tryz.underlying44 rfl agg_implParty sz_implParty
attribute [go_sem] fp_implTrek_4 fo_implTrek_4 fb_implTrek_4 fg_implTrek_4
theorem fp_implTrek_5 {cs : List Value} {K : AV → Prop} : onO (fieldAddrS Tryz.prog 44 5 (.at (.pi cs))) K = evK (todo (cs.drop 11)) (fun c => K (.at (.pi c))) := fa_pi (fd := ⟨ "Journal", 42, 11, false, "", "", 152⟩) Tryz.underlying44 rfl sz_implPageS
theorem fo_implTrek_5 {κ ver sz i off : Nat} {K : AV → Prop} : onO (fieldAddrS Tryz.prog 44 5 (.at (.pa κ ver sz i off))) K = evK (todo (off + 11)) (fun o => K (.at (.pa κ ver sz i o))) := fa_pa (fd := ⟨ "Journal", 42, 11, false, "", "", 152⟩) Tryz.underlying44 rfl sz_implPageS
theorem fb_implTrek_5 {κ ver off : Nat} {K : AV → Prop} : onO (fieldAddrS Tryz.prog 44 5 (.at (.bx κ ver off))) K = evK (todo (off + 11)) (fun o => K (.at (.bx κ ver o))) := fa_bx (fd := ⟨ "Journal", 42, 11, false, "", "", 152⟩) Tryz.underlying44 rfl sz_implPageS
theorem fg_implTrek_5 {cs : List A} {K : AV → Prop} : onR (fieldS Tryz.prog 44 5 (.ag cs)) K = onO (todo cs[11]?) fun a => K (.at a) := field_1K (fd := ⟨ "Journal", 42, 11, false, "", "", 152⟩) Tryz.underlying44 rfl agg_implPageS
attribute [go_sem] fp_implTrek_5 fo_implTrek_5 fb_implTrek_5 fg_implTrek_5
theorem fp_implTrek_6 {cs : List Value} {K : AV → Prop} : onO (fieldAddrS Tryz.prog 44 6 (.at (.pi cs))) K = evK (todo (cs.drop 12)) (fun c => K (.at (.pi c))) := fa_pi (fd := ⟨ "Day", 3, 12, false, "", "", 176⟩) Tryz.underlying44 rfl sz_int
theorem fo_implTrek_6 {κ ver sz i off : Nat} {K : AV → Prop} : onO (fieldAddrS Tryz.prog 44 6 (.at (.pa κ ver sz i off))) K = evK (todo (off + 12)) (fun o => K (.at (.pa κ ver sz i o))) := fa_pa (fd := ⟨ "Day", 3, 12, false, "", "", 176⟩) Tryz.underlying44 rfl sz_int
theorem fb_implTrek_6 {κ ver off : Nat} {K : AV → Prop} : onO (fieldAddrS Tryz.prog 44 6 (.at (.bx κ ver off))) K = evK (todo (off + 12)) (fun o => K (.at (.bx κ ver o))) := fa_bx (fd := ⟨ "Day", 3, 12, false, "", "", 176⟩) Tryz.underlying44 rfl sz_int
theorem fg_implTrek_6 {cs : List A} {K : AV → Prop} : onR (fieldS Tryz.prog 44 6 (.ag cs)) K = onO (todo cs[12]?) fun a => K (.at a) := field_1K (fd := ⟨ "Day", 3, 12, false, "", "", 176⟩) Tryz.underlying44 rfl agg_int
attribute [go_sem] fp_implTrek_6 fo_implTrek_6 fb_implTrek_6 fg_implTrek_6
theorem fp_implTrek_7 {cs : List Value} {K : AV → Prop} : onO (fieldAddrS Tryz.prog 44 7 (.at (.pi cs))) K = evK (todo (cs.drop 13)) (fun c => K (.at (.pi c))) := fa_pi (fd := ⟨ "Given", 3, 13, false, "", "", 184⟩) Tryz.underlying44 rfl sz_int
theorem fo_implTrek_7 {κ ver sz i off : Nat} {K : AV → Prop} : onO (fieldAddrS Tryz.prog 44 7 (.at (.pa κ ver sz i off))) K = evK (todo (off + 13)) (fun o => K (.at (.pa κ ver sz i o))) := fa_pa (fd := ⟨ "Given", 3, 13, false, "", "", 184⟩) Tryz.underlying44 rfl sz_int
theorem fb_implTrek_7 {κ ver off : Nat} {K : AV → Prop} : onO (fieldAddrS Tryz.prog 44 7 (.at (.bx κ ver off))) K = evK (todo (off + 13)) (fun o => K (.at (.bx κ ver o))) := fa_bx (fd := ⟨ "Given", 3, 13, false, "", "", 184⟩) Tryz.underlying44 rfl sz_int
theorem fg_implTrek_7 {cs : List A} {K : AV → Prop} : onR (fieldS Tryz.prog 44 7 (.ag cs)) K = onO (todo cs[13]?) fun a => K (.at a) := field_1K (fd := ⟨ "Given", 3, 13, false, "", "", 184⟩) Tryz.underlying44 rfl agg_int
attribute [go_sem] fp_implTrek_7 fo_implTrek_7 fb_implTrek_7 fg_implTrek_7
theorem fp_implTrek_8 {cs : List Value} {K : AV → Prop} : onO (fieldAddrS Tryz.prog 44 8 (.at (.pi cs))) K = evK (todo (cs.drop 14)) (fun c => K (.at (.pi c))) := fa_pi (fd := ⟨ "Eaten", 3, 14, false, "", "", 192⟩) Tryz.underlying44 rfl sz_int
theorem fo_implTrek_8 {κ ver sz i off : Nat} {K : AV → Prop} : onO (fieldAddrS Tryz.prog 44 8 (.at (.pa κ ver sz i off))) K = evK (todo (off + 14)) (fun o => K (.at (.pa κ ver sz i o))) := fa_pa (fd := ⟨ "Eaten", 3, 14, false, "", "", 192⟩) Tryz.underlying44 rfl sz_int
theorem fb_implTrek_8 {κ ver off : Nat} {K : AV → Prop} : onO (fieldAddrS Tryz.prog 44 8 (.at (.bx κ ver off))) K = evK (todo (off + 14)) (fun o => K (.at (.bx κ ver o))) := fa_bx (fd := ⟨ "Eaten", 3, 14, false, "", "", 192⟩) Tryz.underlying44 rfl sz_int
theorem fg_implTrek_8 {cs : List A} {K : AV → Prop} : onR (fieldS Tryz.prog 44 8 (.ag cs)) K = onO (todo cs[14]?) fun a => K (.at a) := field_1K (fd := ⟨ "Eaten", 3, 14, false, "", "", 192⟩) Tryz.underlying44 rfl agg_int
attribute [go_sem] fp_implTrek_8 fo_implTrek_8 fb_implTrek_8 fg_implTrek_8
theorem lb_implTrek {m : Mem} {κ ver off : Nat} {K : AV → Prop} : onR (loadS Tryz.prog 44 m (.at (.bx κ ver off))) K = boxAt (todo (m κ)) ver fun cells => off + 15 ≤ cells.length ∧ evK (todo ((cells.drop off).take 15)) fun cs => K (.ag cs) := load_bxKN agg_implTrek sz_implTrek
theorem sb_implTrek {m : Mem} {κ ver off : Nat} {X : AV} {K : Mem → Prop} : onR (storeS Tryz.prog 44 m (.at (.bx κ ver off)) X) K = boxAt (todo (m κ)) ver fun cells => onO (todo (atomsOf X)) fun new => new.length = 15 ∧ off + 15 ≤ cells.length ∧ evK (todo (splice cells off new)) fun cs => K (upd m κ (.box ver cs)) := store_bxK sz_implTrek
theorem sp_implTrek {m : Mem} {κ ver sz j off : Nat} {X : AV} {K : Mem → Prop} : onR (storeS Tryz.prog 44 m (.at (.pa κ ver sz j off)) X) K = arrAt (todo (m κ)) ver sz fun rows => onO (todo ((atomsOf X).bind valsOf)) fun us => us.length = 15 ∧ (j < rows.length ∧ off + 15 ≤ sz) ∧ evK (todo (rows.set j (splice (rows.getD j []) off us))) fun rs => K (upd m κ (.arr ver sz rs)) := store_paK sz_implTrek
attribute [go_sem] lb_implTrek sb_implTrek sp_implTrek
theorem agg_lawsPage : aggT Tryz.prog 170 = some true := by kernel_rfl
theorem sz_lawsPage : szT Tryz.prog 170 = some 4 := by kernel_rfl
theorem by_lawsPage : (Tryz.prog.info? 170).map (·.bytes) = some 32 := by kernel_rfl
theorem zv_lawsPage : zeroVals Tryz.prog 170 = some [.int .i64 0, .int .i64 0, .int .i64 0, .int .i64 0] := by kernel_rfl
theorem za_lawsPage : zeroAtoms Tryz.prog 170 = some [.v (.int .i64 0), .v (.int .i64 0), .v (.int .i64 0), .v (.int .i64 0)] := by kernel_rfl
attribute [go_sem] za_lawsPage sz_lawsPage
theorem ld_lawsPage {m : Mem} {cs : List Value} {K : AV → Prop} : onR (loadS Tryz.prog 170 m (.at (.pi cs))) K = (4 ≤ cs.length ∧ evK (todo ((cs.take 4).map A.v)) fun cs => K (.ag cs)) := load_piN agg_lawsPage sz_lawsPage
theorem ti_lawsPage : tiOf Tryz.prog 170 = some ⟨[⟨ "Day", 3, 0, false, "", "", 0⟩, ⟨ "Cell", 3, 1, false, "", "", 8⟩, ⟨ "Food", 3, 2, false, "", "", 16⟩, ⟨ "Seal", 3, 3, false, "", "", 24⟩], [.v (.int .i64 0), .v (.int .i64 0), .v (.int .i64 0), .v (.int .i64 0)]⟩ := by kernel_rfl
theorem lp_lawsPage {κ ver sz j off : Nat} {m : Mem} {K : AV → Prop} : loadK Tryz.prog 170 m (.at (.pa κ ver sz j off)) K = (off + 4 ≤ sz ∧ rowAt (todo (m κ)) ver sz j fun r => evK (todo (((r.drop off).take 4).map A.v)) fun cs => K (.ag cs)) := loadK_paB agg_lawsPage sz_lawsPage
attribute [go_sem] ld_lawsPage ti_lawsPage lp_lawsPage
theorem fp_lawsPage_0 {cs : List Value} {K : AV → Prop} : onO (fieldAddrS Tryz.prog 170 0 (.at (.pi cs))) K = evK (todo (cs.drop 0)) (fun c => K (.at (.pi c))) := fa_pi (fd := ⟨ "Day", 3, 0, false, "", "", 0⟩) Tryz.underlying170 rfl sz_int
theorem fo_lawsPage_0 {κ ver sz i off : Nat} {K : AV → Prop} : onO (fieldAddrS Tryz.prog 170 0 (.at (.pa κ ver sz i off))) K = evK (todo (off + 0)) (fun o => K (.at (.pa κ ver sz i o))) := fa_pa (fd := ⟨ "Day", 3, 0, false, "", "", 0⟩) Tryz.underlying170 rfl sz_int
theorem fb_lawsPage_0 {κ ver off : Nat} {K : AV → Prop} : onO (fieldAddrS Tryz.prog 170 0 (.at (.bx κ ver off))) K = evK (todo (off + 0)) (fun o => K (.at (.bx κ ver o))) := fa_bx (fd := ⟨ "Day", 3, 0, false, "", "", 0⟩) Tryz.underlying170 rfl sz_int
theorem fg_lawsPage_0 {cs : List A} {K : AV → Prop} : onR (fieldS Tryz.prog 170 0 (.ag cs)) K = onO (todo cs[0]?) fun a => K (.at a) := field_1K (fd := ⟨ "Day", 3, 0, false, "", "", 0⟩) Tryz.underlying170 rfl agg_int
attribute [go_sem] fp_lawsPage_0 fo_lawsPage_0 fb_lawsPage_0 fg_lawsPage_0
theorem fp_lawsPage_1 {cs : List Value} {K : AV → Prop} : onO (fieldAddrS Tryz.prog 170 1 (.at (.pi cs))) K = evK (todo (cs.drop 1)) (fun c => K (.at (.pi c))) := fa_pi (fd := ⟨ "Cell", 3, 1, false, "", "", 8⟩) Tryz.underlying170 rfl sz_int
theorem fo_lawsPage_1 {κ ver sz i off : Nat} {K : AV → Prop} : onO (fieldAddrS Tryz.prog 170 1 (.at (.pa κ ver sz i off))) K = evK (todo (off + 1)) (fun o => K (.at (.pa κ ver sz i o))) := fa_pa (fd := ⟨ "Cell", 3, 1, false, "", "", 8⟩) Tryz.underlying170 rfl sz_int
theorem fb_lawsPage_1 {κ ver off : Nat} {K : AV → Prop} : onO (fieldAddrS Tryz.prog 170 1 (.at (.bx κ ver off))) K = evK (todo (off + 1)) (fun o => K (.at (.bx κ ver o))) := fa_bx (fd := ⟨ "Cell", 3, 1, false, "", "", 8⟩) Tryz.underlying170 rfl sz_int
theorem fg_lawsPage_1 {cs : List A} {K : AV → Prop} : onR (fieldS Tryz.prog 170 1 (.ag cs)) K = onO (todo cs[1]?) fun a => K (.at a) := field_1K (fd := ⟨ "Cell", 3, 1, false, "", "", 8⟩) Tryz.underlying170 rfl agg_int
attribute [go_sem] fp_lawsPage_1 fo_lawsPage_1 fb_lawsPage_1 fg_lawsPage_1
theorem fp_lawsPage_2 {cs : List Value} {K : AV → Prop} : onO (fieldAddrS Tryz.prog 170 2 (.at (.pi cs))) K = evK (todo (cs.drop 2)) (fun c => K (.at (.pi c))) := fa_pi (fd := ⟨ "Food", 3, 2, false, "", "", 16⟩) Tryz.underlying170 rfl sz_int
theorem fo_lawsPage_2 {κ ver sz i off : Nat} {K : AV → Prop} : onO (fieldAddrS Tryz.prog 170 2 (.at (.pa κ ver sz i off))) K = evK (todo (off + 2)) (fun o => K (.at (.pa κ ver sz i o))) := fa_pa (fd := ⟨ "Food", 3, 2, false, "", "", 16⟩) Tryz.underlying170 rfl sz_int
theorem fb_lawsPage_2 {κ ver off : Nat} {K : AV → Prop} : onO (fieldAddrS Tryz.prog 170 2 (.at (.bx κ ver off))) K = evK (todo (off + 2)) (fun o => K (.at (.bx κ ver o))) := fa_bx (fd := ⟨ "Food", 3, 2, false, "", "", 16⟩) Tryz.underlying170 rfl sz_int
theorem fg_lawsPage_2 {cs : List A} {K : AV → Prop} : onR (fieldS Tryz.prog 170 2 (.ag cs)) K = onO (todo cs[2]?) fun a => K (.at a) := field_1K (fd := ⟨ "Food", 3, 2, false, "", "", 16⟩) Tryz.underlying170 rfl agg_int
attribute [go_sem] fp_lawsPage_2 fo_lawsPage_2 fb_lawsPage_2 fg_lawsPage_2
theorem fp_lawsPage_3 {cs : List Value} {K : AV → Prop} : onO (fieldAddrS Tryz.prog 170 3 (.at (.pi cs))) K = evK (todo (cs.drop 3)) (fun c => K (.at (.pi c))) := fa_pi (fd := ⟨ "Seal", 3, 3, false, "", "", 24⟩) Tryz.underlying170 rfl sz_int
theorem fo_lawsPage_3 {κ ver sz i off : Nat} {K : AV → Prop} : onO (fieldAddrS Tryz.prog 170 3 (.at (.pa κ ver sz i off))) K = evK (todo (off + 3)) (fun o => K (.at (.pa κ ver sz i o))) := fa_pa (fd := ⟨ "Seal", 3, 3, false, "", "", 24⟩) Tryz.underlying170 rfl sz_int
theorem fb_lawsPage_3 {κ ver off : Nat} {K : AV → Prop} : onO (fieldAddrS Tryz.prog 170 3 (.at (.bx κ ver off))) K = evK (todo (off + 3)) (fun o => K (.at (.bx κ ver o))) := fa_bx (fd := ⟨ "Seal", 3, 3, false, "", "", 24⟩) Tryz.underlying170 rfl sz_int
theorem fg_lawsPage_3 {cs : List A} {K : AV → Prop} : onR (fieldS Tryz.prog 170 3 (.ag cs)) K = onO (todo cs[3]?) fun a => K (.at a) := field_1K (fd := ⟨ "Seal", 3, 3, false, "", "", 24⟩) Tryz.underlying170 rfl agg_int
attribute [go_sem] fp_lawsPage_3 fo_lawsPage_3 fb_lawsPage_3 fg_lawsPage_3
theorem lb_lawsPage {m : Mem} {κ ver off : Nat} {K : AV → Prop} : onR (loadS Tryz.prog 170 m (.at (.bx κ ver off))) K = boxAt (todo (m κ)) ver fun cells => off + 4 ≤ cells.length ∧ evK (todo ((cells.drop off).take 4)) fun cs => K (.ag cs) := load_bxKN agg_lawsPage sz_lawsPage
theorem sb_lawsPage {m : Mem} {κ ver off : Nat} {X : AV} {K : Mem → Prop} : onR (storeS Tryz.prog 170 m (.at (.bx κ ver off)) X) K = boxAt (todo (m κ)) ver fun cells => onO (todo (atomsOf X)) fun new => new.length = 4 ∧ off + 4 ≤ cells.length ∧ evK (todo (splice cells off new)) fun cs => K (upd m κ (.box ver cs)) := store_bxK sz_lawsPage
theorem sp_lawsPage {m : Mem} {κ ver sz j off : Nat} {X : AV} {K : Mem → Prop} : onR (storeS Tryz.prog 170 m (.at (.pa κ ver sz j off)) X) K = arrAt (todo (m κ)) ver sz fun rows => onO (todo ((atomsOf X).bind valsOf)) fun us => us.length = 4 ∧ (j < rows.length ∧ off + 4 ≤ sz) ∧ evK (todo (rows.set j (splice (rows.getD j []) off us))) fun rs => K (upd m κ (.arr ver sz rs)) := store_paK sz_lawsPage
attribute [go_sem] lb_lawsPage sb_lawsPage sp_lawsPage
theorem und_lawsPageS : Tryz.prog.underlying 32 = some (.slice 170) := Tryz.underlying32
theorem agg_lawsPageS : aggT Tryz.prog 32 = some false := by kernel_rfl
theorem sz_lawsPageS : szT Tryz.prog 32 = some 1 := by kernel_rfl
theorem ix_lawsPageS {rows : List (List Value)} {k : IntKind} {i : Int} {K : AV → Prop} : onR (indexAddrS Tryz.prog 32 (.at (.im 4 rows)) (.at (.v (.int k i)))) K = ((0 ≤ i ∧ i < (rows.length : Int)) ∧ ∀ r, rows[i.toNat]? = some r → K (.at (.pi r))) := idx_im und_lawsPageS sz_lawsPage
theorem io_lawsPageS {κ ver n : Nat} {k : IntKind} {i : Int} {K : AV → Prop} : onR (indexAddrS Tryz.prog 32 (.at (.ow κ ver 4 n)) (.at (.v (.int k i)))) K = ((0 ≤ i ∧ i < (n : Int)) ∧ evK (todo i.toNat) fun j => K (.at (.pa κ ver 4 j 0))) := idx_ow und_lawsPageS sz_lawsPage
theorem ln_lawsPageS {sz : Nat} {rows : List (List Value)} {K : Value → Prop} : onO (lenS Tryz.prog 32 (.at (.im sz rows))) K = K (.int .i64 rows.length) := len_im und_lawsPageS
theorem lo_lawsPageS {κ ver sz n : Nat} {K : Value → Prop} : onO (lenS Tryz.prog 32 (.at (.ow κ ver sz n))) K = K (.int .i64 n) := len_ow und_lawsPageS
theorem lz_lawsPageS {K : Value → Prop} : onO (lenS Tryz.prog 32 (.at .nil)) K = K (.int .i64 0) := len_nil und_lawsPageS
theorem si_lawsPageS : siOf Tryz.prog 32 = some ⟨170, 4, 32, [.int .i64 0, .int .i64 0, .int .i64 0, .int .i64 0]⟩ := by kernel_rfl
theorem ci_lawsPageS {nx : Nat} {q : Qm} {t : Nat → AV} {m : Mem} {rows : List (List Value)} {lo hi : Option Operand} {K : AV → Mem → Prop} : onM (sliceS Tryz.prog nx q 32 ⟨t, m⟩ (.at (.im 4 rows)) lo hi none) K = onO (todo (boundS ⟨t, m⟩ lo 0)) fun l => onO (todo (boundS ⟨t, m⟩ hi rows.length)) fun h => (0 ≤ l ∧ l ≤ h ∧ h ≤ (rows.length : Int)) ∧ evK (todo ((rows.drop l.toNat).take (h.toNat - l.toNat))) fun rs => K (.at (.im 4 rs)) m := cut_im_k und_lawsPageS sz_lawsPage
theorem cn_lawsPageS {nx : Nat} {q : Qm} {t : Nat → AV} {m : Mem} {lo hi : Option Operand} {K : AV → Mem → Prop} : onM (sliceS Tryz.prog nx q 32 ⟨t, m⟩ (.at .nil) lo hi none) K = onO (todo (boundS ⟨t, m⟩ lo 0)) fun l => onO (todo (boundS ⟨t, m⟩ hi 0)) fun h => (l = 0 ∧ h = 0) ∧ K (.at .nil) m := cut_nil_k und_lawsPageS sz_lawsPage
attribute [go_sem] ix_lawsPageS io_lawsPageS ln_lawsPageS lo_lawsPageS lz_lawsPageS si_lawsPageS ci_lawsPageS cn_lawsPageS
attribute [go_sem] sz_lawsPageS
theorem lb_lawsPageS {m : Mem} {κ ver off : Nat} {K : AV → Prop} : onR (loadS Tryz.prog 32 m (.at (.bx κ ver off))) K = boxAt (todo (m κ)) ver fun cells => onO (todo cells[off]?) fun a => K (.at a) := load_bxK1 agg_lawsPageS
theorem sb_lawsPageS {m : Mem} {κ ver off : Nat} {X : AV} {K : Mem → Prop} : onR (storeS Tryz.prog 32 m (.at (.bx κ ver off)) X) K = boxAt (todo (m κ)) ver fun cells => onO (todo (atomsOf X)) fun new => new.length = 1 ∧ off + 1 ≤ cells.length ∧ evK (todo (splice cells off new)) fun cs => K (upd m κ (.box ver cs)) := store_bxK sz_lawsPageS
theorem sp_lawsPageS {m : Mem} {κ ver sz j off : Nat} {X : AV} {K : Mem → Prop} : onR (storeS Tryz.prog 32 m (.at (.pa κ ver sz j off)) X) K = arrAt (todo (m κ)) ver sz fun rows => onO (todo ((atomsOf X).bind valsOf)) fun us => us.length = 1 ∧ (j < rows.length ∧ off + 1 ≤ sz) ∧ evK (todo (rows.set j (splice (rows.getD j []) off us))) fun rs => K (upd m κ (.arr ver sz rs)) := store_paK sz_lawsPageS
attribute [go_sem] lb_lawsPageS sb_lawsPageS sp_lawsPageS
theorem agg_lawsEvent : aggT Tryz.prog 59 = some true := by kernel_rfl
theorem sz_lawsEvent : szT Tryz.prog 59 = some 3 := by kernel_rfl
theorem by_lawsEvent : (Tryz.prog.info? 59).map (·.bytes) = some 24 := by kernel_rfl
theorem zv_lawsEvent : zeroVals Tryz.prog 59 = some [.int .i64 0, .int .i64 0, .bool false] := by kernel_rfl
theorem za_lawsEvent : zeroAtoms Tryz.prog 59 = some [.v (.int .i64 0), .v (.int .i64 0), .v (.bool false)] := by kernel_rfl
attribute [go_sem] za_lawsEvent sz_lawsEvent
theorem ld_lawsEvent {m : Mem} {cs : List Value} {K : AV → Prop} : onR (loadS Tryz.prog 59 m (.at (.pi cs))) K = (3 ≤ cs.length ∧ evK (todo ((cs.take 3).map A.v)) fun cs => K (.ag cs)) := load_piN agg_lawsEvent sz_lawsEvent
theorem ti_lawsEvent : tiOf Tryz.prog 59 = some ⟨[⟨ "Kind", 3, 0, false, "", "", 0⟩, ⟨ "N", 3, 1, false, "", "", 8⟩, ⟨ "Storm", 4, 2, false, "", "", 16⟩], [.v (.int .i64 0), .v (.int .i64 0), .v (.bool false)]⟩ := by kernel_rfl
theorem lp_lawsEvent {κ ver sz j off : Nat} {m : Mem} {K : AV → Prop} : loadK Tryz.prog 59 m (.at (.pa κ ver sz j off)) K = (off + 3 ≤ sz ∧ rowAt (todo (m κ)) ver sz j fun r => evK (todo (((r.drop off).take 3).map A.v)) fun cs => K (.ag cs)) := loadK_paB agg_lawsEvent sz_lawsEvent
attribute [go_sem] ld_lawsEvent ti_lawsEvent lp_lawsEvent
theorem fp_lawsEvent_0 {cs : List Value} {K : AV → Prop} : onO (fieldAddrS Tryz.prog 59 0 (.at (.pi cs))) K = evK (todo (cs.drop 0)) (fun c => K (.at (.pi c))) := fa_pi (fd := ⟨ "Kind", 3, 0, false, "", "", 0⟩) Tryz.underlying59 rfl sz_int
theorem fo_lawsEvent_0 {κ ver sz i off : Nat} {K : AV → Prop} : onO (fieldAddrS Tryz.prog 59 0 (.at (.pa κ ver sz i off))) K = evK (todo (off + 0)) (fun o => K (.at (.pa κ ver sz i o))) := fa_pa (fd := ⟨ "Kind", 3, 0, false, "", "", 0⟩) Tryz.underlying59 rfl sz_int
theorem fb_lawsEvent_0 {κ ver off : Nat} {K : AV → Prop} : onO (fieldAddrS Tryz.prog 59 0 (.at (.bx κ ver off))) K = evK (todo (off + 0)) (fun o => K (.at (.bx κ ver o))) := fa_bx (fd := ⟨ "Kind", 3, 0, false, "", "", 0⟩) Tryz.underlying59 rfl sz_int
theorem fg_lawsEvent_0 {cs : List A} {K : AV → Prop} : onR (fieldS Tryz.prog 59 0 (.ag cs)) K = onO (todo cs[0]?) fun a => K (.at a) := field_1K (fd := ⟨ "Kind", 3, 0, false, "", "", 0⟩) Tryz.underlying59 rfl agg_int
attribute [go_sem] fp_lawsEvent_0 fo_lawsEvent_0 fb_lawsEvent_0 fg_lawsEvent_0
theorem fp_lawsEvent_1 {cs : List Value} {K : AV → Prop} : onO (fieldAddrS Tryz.prog 59 1 (.at (.pi cs))) K = evK (todo (cs.drop 1)) (fun c => K (.at (.pi c))) := fa_pi (fd := ⟨ "N", 3, 1, false, "", "", 8⟩) Tryz.underlying59 rfl sz_int
theorem fo_lawsEvent_1 {κ ver sz i off : Nat} {K : AV → Prop} : onO (fieldAddrS Tryz.prog 59 1 (.at (.pa κ ver sz i off))) K = evK (todo (off + 1)) (fun o => K (.at (.pa κ ver sz i o))) := fa_pa (fd := ⟨ "N", 3, 1, false, "", "", 8⟩) Tryz.underlying59 rfl sz_int
theorem fb_lawsEvent_1 {κ ver off : Nat} {K : AV → Prop} : onO (fieldAddrS Tryz.prog 59 1 (.at (.bx κ ver off))) K = evK (todo (off + 1)) (fun o => K (.at (.bx κ ver o))) := fa_bx (fd := ⟨ "N", 3, 1, false, "", "", 8⟩) Tryz.underlying59 rfl sz_int
theorem fg_lawsEvent_1 {cs : List A} {K : AV → Prop} : onR (fieldS Tryz.prog 59 1 (.ag cs)) K = onO (todo cs[1]?) fun a => K (.at a) := field_1K (fd := ⟨ "N", 3, 1, false, "", "", 8⟩) Tryz.underlying59 rfl agg_int
attribute [go_sem] fp_lawsEvent_1 fo_lawsEvent_1 fb_lawsEvent_1 fg_lawsEvent_1
theorem fp_lawsEvent_2 {cs : List Value} {K : AV → Prop} : onO (fieldAddrS Tryz.prog 59 2 (.at (.pi cs))) K = evK (todo (cs.drop 2)) (fun c => K (.at (.pi c))) := fa_pi (fd := ⟨ "Storm", 4, 2, false, "", "", 16⟩) Tryz.underlying59 rfl sz_bool
theorem fo_lawsEvent_2 {κ ver sz i off : Nat} {K : AV → Prop} : onO (fieldAddrS Tryz.prog 59 2 (.at (.pa κ ver sz i off))) K = evK (todo (off + 2)) (fun o => K (.at (.pa κ ver sz i o))) := fa_pa (fd := ⟨ "Storm", 4, 2, false, "", "", 16⟩) Tryz.underlying59 rfl sz_bool
theorem fb_lawsEvent_2 {κ ver off : Nat} {K : AV → Prop} : onO (fieldAddrS Tryz.prog 59 2 (.at (.bx κ ver off))) K = evK (todo (off + 2)) (fun o => K (.at (.bx κ ver o))) := fa_bx (fd := ⟨ "Storm", 4, 2, false, "", "", 16⟩) Tryz.underlying59 rfl sz_bool
theorem fg_lawsEvent_2 {cs : List A} {K : AV → Prop} : onR (fieldS Tryz.prog 59 2 (.ag cs)) K = onO (todo cs[2]?) fun a => K (.at a) := field_1K (fd := ⟨ "Storm", 4, 2, false, "", "", 16⟩) Tryz.underlying59 rfl agg_bool
attribute [go_sem] fp_lawsEvent_2 fo_lawsEvent_2 fb_lawsEvent_2 fg_lawsEvent_2
theorem lb_lawsEvent {m : Mem} {κ ver off : Nat} {K : AV → Prop} : onR (loadS Tryz.prog 59 m (.at (.bx κ ver off))) K = boxAt (todo (m κ)) ver fun cells => off + 3 ≤ cells.length ∧ evK (todo ((cells.drop off).take 3)) fun cs => K (.ag cs) := load_bxKN agg_lawsEvent sz_lawsEvent
theorem sb_lawsEvent {m : Mem} {κ ver off : Nat} {X : AV} {K : Mem → Prop} : onR (storeS Tryz.prog 59 m (.at (.bx κ ver off)) X) K = boxAt (todo (m κ)) ver fun cells => onO (todo (atomsOf X)) fun new => new.length = 3 ∧ off + 3 ≤ cells.length ∧ evK (todo (splice cells off new)) fun cs => K (upd m κ (.box ver cs)) := store_bxK sz_lawsEvent
theorem sp_lawsEvent {m : Mem} {κ ver sz j off : Nat} {X : AV} {K : Mem → Prop} : onR (storeS Tryz.prog 59 m (.at (.pa κ ver sz j off)) X) K = arrAt (todo (m κ)) ver sz fun rows => onO (todo ((atomsOf X).bind valsOf)) fun us => us.length = 3 ∧ (j < rows.length ∧ off + 3 ≤ sz) ∧ evK (todo (rows.set j (splice (rows.getD j []) off us))) fun rs => K (upd m κ (.arr ver sz rs)) := store_paK sz_lawsEvent
attribute [go_sem] lb_lawsEvent sb_lawsEvent sp_lawsEvent
theorem und_lawsEventS : Tryz.prog.underlying 64 = some (.slice 59) := Tryz.underlying64
theorem agg_lawsEventS : aggT Tryz.prog 64 = some false := by kernel_rfl
theorem sz_lawsEventS : szT Tryz.prog 64 = some 1 := by kernel_rfl
theorem ix_lawsEventS {rows : List (List Value)} {k : IntKind} {i : Int} {K : AV → Prop} : onR (indexAddrS Tryz.prog 64 (.at (.im 3 rows)) (.at (.v (.int k i)))) K = ((0 ≤ i ∧ i < (rows.length : Int)) ∧ ∀ r, rows[i.toNat]? = some r → K (.at (.pi r))) := idx_im und_lawsEventS sz_lawsEvent
theorem io_lawsEventS {κ ver n : Nat} {k : IntKind} {i : Int} {K : AV → Prop} : onR (indexAddrS Tryz.prog 64 (.at (.ow κ ver 3 n)) (.at (.v (.int k i)))) K = ((0 ≤ i ∧ i < (n : Int)) ∧ evK (todo i.toNat) fun j => K (.at (.pa κ ver 3 j 0))) := idx_ow und_lawsEventS sz_lawsEvent
theorem ln_lawsEventS {sz : Nat} {rows : List (List Value)} {K : Value → Prop} : onO (lenS Tryz.prog 64 (.at (.im sz rows))) K = K (.int .i64 rows.length) := len_im und_lawsEventS
theorem lo_lawsEventS {κ ver sz n : Nat} {K : Value → Prop} : onO (lenS Tryz.prog 64 (.at (.ow κ ver sz n))) K = K (.int .i64 n) := len_ow und_lawsEventS
theorem lz_lawsEventS {K : Value → Prop} : onO (lenS Tryz.prog 64 (.at .nil)) K = K (.int .i64 0) := len_nil und_lawsEventS
theorem si_lawsEventS : siOf Tryz.prog 64 = some ⟨59, 3, 24, [.int .i64 0, .int .i64 0, .bool false]⟩ := by kernel_rfl
theorem ci_lawsEventS {nx : Nat} {q : Qm} {t : Nat → AV} {m : Mem} {rows : List (List Value)} {lo hi : Option Operand} {K : AV → Mem → Prop} : onM (sliceS Tryz.prog nx q 64 ⟨t, m⟩ (.at (.im 3 rows)) lo hi none) K = onO (todo (boundS ⟨t, m⟩ lo 0)) fun l => onO (todo (boundS ⟨t, m⟩ hi rows.length)) fun h => (0 ≤ l ∧ l ≤ h ∧ h ≤ (rows.length : Int)) ∧ evK (todo ((rows.drop l.toNat).take (h.toNat - l.toNat))) fun rs => K (.at (.im 3 rs)) m := cut_im_k und_lawsEventS sz_lawsEvent
theorem cn_lawsEventS {nx : Nat} {q : Qm} {t : Nat → AV} {m : Mem} {lo hi : Option Operand} {K : AV → Mem → Prop} : onM (sliceS Tryz.prog nx q 64 ⟨t, m⟩ (.at .nil) lo hi none) K = onO (todo (boundS ⟨t, m⟩ lo 0)) fun l => onO (todo (boundS ⟨t, m⟩ hi 0)) fun h => (l = 0 ∧ h = 0) ∧ K (.at .nil) m := cut_nil_k und_lawsEventS sz_lawsEvent
attribute [go_sem] ix_lawsEventS io_lawsEventS ln_lawsEventS lo_lawsEventS lz_lawsEventS si_lawsEventS ci_lawsEventS cn_lawsEventS
attribute [go_sem] sz_lawsEventS
theorem lb_lawsEventS {m : Mem} {κ ver off : Nat} {K : AV → Prop} : onR (loadS Tryz.prog 64 m (.at (.bx κ ver off))) K = boxAt (todo (m κ)) ver fun cells => onO (todo cells[off]?) fun a => K (.at a) := load_bxK1 agg_lawsEventS
theorem sb_lawsEventS {m : Mem} {κ ver off : Nat} {X : AV} {K : Mem → Prop} : onR (storeS Tryz.prog 64 m (.at (.bx κ ver off)) X) K = boxAt (todo (m κ)) ver fun cells => onO (todo (atomsOf X)) fun new => new.length = 1 ∧ off + 1 ≤ cells.length ∧ evK (todo (splice cells off new)) fun cs => K (upd m κ (.box ver cs)) := store_bxK sz_lawsEventS
theorem sp_lawsEventS {m : Mem} {κ ver sz j off : Nat} {X : AV} {K : Mem → Prop} : onR (storeS Tryz.prog 64 m (.at (.pa κ ver sz j off)) X) K = arrAt (todo (m κ)) ver sz fun rows => onO (todo ((atomsOf X).bind valsOf)) fun us => us.length = 1 ∧ (j < rows.length ∧ off + 1 ≤ sz) ∧ evK (todo (rows.set j (splice (rows.getD j []) off us))) fun rs => K (upd m κ (.arr ver sz rs)) := store_paK sz_lawsEventS
attribute [go_sem] lb_lawsEventS sb_lawsEventS sp_lawsEventS
theorem agg_lawsLand : aggT Tryz.prog 24 = some true := by kernel_rfl
theorem sz_lawsLand : szT Tryz.prog 24 = some 3 := by kernel_rfl
theorem by_lawsLand : (Tryz.prog.info? 24).map (·.bytes) = some 40 := by kernel_rfl
theorem zv_lawsLand : zeroVals Tryz.prog 24 = some [.int .i64 0, .int .i64 0, .slice none 0 0] := by kernel_rfl
theorem za_lawsLand : zeroAtoms Tryz.prog 24 = some [.v (.int .i64 0), .v (.int .i64 0), .nil] := by kernel_rfl
attribute [go_sem] za_lawsLand sz_lawsLand
theorem ld_lawsLand {m : Mem} {cs : List Value} {K : AV → Prop} : onR (loadS Tryz.prog 24 m (.at (.pi cs))) K = (3 ≤ cs.length ∧ evK (todo ((cs.take 3).map A.v)) fun cs => K (.ag cs)) := load_piN agg_lawsLand sz_lawsLand
theorem ti_lawsLand : tiOf Tryz.prog 24 = some ⟨[⟨ "W", 3, 0, false, "", "", 0⟩, ⟨ "H", 3, 1, false, "", "", 8⟩, ⟨ "Cells", 22, 2, false, "", "", 16⟩], [.v (.int .i64 0), .v (.int .i64 0), .nil]⟩ := by kernel_rfl
theorem lp_lawsLand {κ ver sz j off : Nat} {m : Mem} {K : AV → Prop} : loadK Tryz.prog 24 m (.at (.pa κ ver sz j off)) K = (off + 3 ≤ sz ∧ rowAt (todo (m κ)) ver sz j fun r => evK (todo (((r.drop off).take 3).map A.v)) fun cs => K (.ag cs)) := loadK_paB agg_lawsLand sz_lawsLand
attribute [go_sem] ld_lawsLand ti_lawsLand lp_lawsLand
theorem fp_lawsLand_0 {cs : List Value} {K : AV → Prop} : onO (fieldAddrS Tryz.prog 24 0 (.at (.pi cs))) K = evK (todo (cs.drop 0)) (fun c => K (.at (.pi c))) := fa_pi (fd := ⟨ "W", 3, 0, false, "", "", 0⟩) Tryz.underlying24 rfl sz_int
theorem fo_lawsLand_0 {κ ver sz i off : Nat} {K : AV → Prop} : onO (fieldAddrS Tryz.prog 24 0 (.at (.pa κ ver sz i off))) K = evK (todo (off + 0)) (fun o => K (.at (.pa κ ver sz i o))) := fa_pa (fd := ⟨ "W", 3, 0, false, "", "", 0⟩) Tryz.underlying24 rfl sz_int
theorem fb_lawsLand_0 {κ ver off : Nat} {K : AV → Prop} : onO (fieldAddrS Tryz.prog 24 0 (.at (.bx κ ver off))) K = evK (todo (off + 0)) (fun o => K (.at (.bx κ ver o))) := fa_bx (fd := ⟨ "W", 3, 0, false, "", "", 0⟩) Tryz.underlying24 rfl sz_int
theorem fg_lawsLand_0 {cs : List A} {K : AV → Prop} : onR (fieldS Tryz.prog 24 0 (.ag cs)) K = onO (todo cs[0]?) fun a => K (.at a) := field_1K (fd := ⟨ "W", 3, 0, false, "", "", 0⟩) Tryz.underlying24 rfl agg_int
attribute [go_sem] fp_lawsLand_0 fo_lawsLand_0 fb_lawsLand_0 fg_lawsLand_0
theorem fp_lawsLand_1 {cs : List Value} {K : AV → Prop} : onO (fieldAddrS Tryz.prog 24 1 (.at (.pi cs))) K = evK (todo (cs.drop 1)) (fun c => K (.at (.pi c))) := fa_pi (fd := ⟨ "H", 3, 1, false, "", "", 8⟩) Tryz.underlying24 rfl sz_int
theorem fo_lawsLand_1 {κ ver sz i off : Nat} {K : AV → Prop} : onO (fieldAddrS Tryz.prog 24 1 (.at (.pa κ ver sz i off))) K = evK (todo (off + 1)) (fun o => K (.at (.pa κ ver sz i o))) := fa_pa (fd := ⟨ "H", 3, 1, false, "", "", 8⟩) Tryz.underlying24 rfl sz_int
theorem fb_lawsLand_1 {κ ver off : Nat} {K : AV → Prop} : onO (fieldAddrS Tryz.prog 24 1 (.at (.bx κ ver off))) K = evK (todo (off + 1)) (fun o => K (.at (.bx κ ver o))) := fa_bx (fd := ⟨ "H", 3, 1, false, "", "", 8⟩) Tryz.underlying24 rfl sz_int
theorem fg_lawsLand_1 {cs : List A} {K : AV → Prop} : onR (fieldS Tryz.prog 24 1 (.ag cs)) K = onO (todo cs[1]?) fun a => K (.at a) := field_1K (fd := ⟨ "H", 3, 1, false, "", "", 8⟩) Tryz.underlying24 rfl agg_int
attribute [go_sem] fp_lawsLand_1 fo_lawsLand_1 fb_lawsLand_1 fg_lawsLand_1
theorem fp_lawsLand_2 {cs : List Value} {K : AV → Prop} : onO (fieldAddrS Tryz.prog 24 2 (.at (.pi cs))) K = evK (todo (cs.drop 2)) (fun c => K (.at (.pi c))) := fa_pi (fd := ⟨ "Cells", 22, 2, false, "", "", 16⟩) Tryz.underlying24 rfl sz_intS
theorem fo_lawsLand_2 {κ ver sz i off : Nat} {K : AV → Prop} : onO (fieldAddrS Tryz.prog 24 2 (.at (.pa κ ver sz i off))) K = evK (todo (off + 2)) (fun o => K (.at (.pa κ ver sz i o))) := fa_pa (fd := ⟨ "Cells", 22, 2, false, "", "", 16⟩) Tryz.underlying24 rfl sz_intS
theorem fb_lawsLand_2 {κ ver off : Nat} {K : AV → Prop} : onO (fieldAddrS Tryz.prog 24 2 (.at (.bx κ ver off))) K = evK (todo (off + 2)) (fun o => K (.at (.bx κ ver o))) := fa_bx (fd := ⟨ "Cells", 22, 2, false, "", "", 16⟩) Tryz.underlying24 rfl sz_intS
theorem fg_lawsLand_2 {cs : List A} {K : AV → Prop} : onR (fieldS Tryz.prog 24 2 (.ag cs)) K = onO (todo cs[2]?) fun a => K (.at a) := field_1K (fd := ⟨ "Cells", 22, 2, false, "", "", 16⟩) Tryz.underlying24 rfl agg_intS
attribute [go_sem] fp_lawsLand_2 fo_lawsLand_2 fb_lawsLand_2 fg_lawsLand_2
theorem lb_lawsLand {m : Mem} {κ ver off : Nat} {K : AV → Prop} : onR (loadS Tryz.prog 24 m (.at (.bx κ ver off))) K = boxAt (todo (m κ)) ver fun cells => off + 3 ≤ cells.length ∧ evK (todo ((cells.drop off).take 3)) fun cs => K (.ag cs) := load_bxKN agg_lawsLand sz_lawsLand
theorem sb_lawsLand {m : Mem} {κ ver off : Nat} {X : AV} {K : Mem → Prop} : onR (storeS Tryz.prog 24 m (.at (.bx κ ver off)) X) K = boxAt (todo (m κ)) ver fun cells => onO (todo (atomsOf X)) fun new => new.length = 3 ∧ off + 3 ≤ cells.length ∧ evK (todo (splice cells off new)) fun cs => K (upd m κ (.box ver cs)) := store_bxK sz_lawsLand
theorem sp_lawsLand {m : Mem} {κ ver sz j off : Nat} {X : AV} {K : Mem → Prop} : onR (storeS Tryz.prog 24 m (.at (.pa κ ver sz j off)) X) K = arrAt (todo (m κ)) ver sz fun rows => onO (todo ((atomsOf X).bind valsOf)) fun us => us.length = 3 ∧ (j < rows.length ∧ off + 3 ≤ sz) ∧ evK (todo (rows.set j (splice (rows.getD j []) off us))) fun rs => K (upd m κ (.arr ver sz rs)) := store_paK sz_lawsLand
attribute [go_sem] lb_lawsLand sb_lawsLand sp_lawsLand
theorem agg_lawsRule : aggT Tryz.prog 26 = some true := by kernel_rfl
theorem sz_lawsRule : szT Tryz.prog 26 = some 2 := by kernel_rfl
theorem by_lawsRule : (Tryz.prog.info? 26).map (·.bytes) = some 16 := by kernel_rfl
theorem zv_lawsRule : zeroVals Tryz.prog 26 = some [.int .i64 0, .int .i64 0] := by kernel_rfl
theorem za_lawsRule : zeroAtoms Tryz.prog 26 = some [.v (.int .i64 0), .v (.int .i64 0)] := by kernel_rfl
attribute [go_sem] za_lawsRule sz_lawsRule
theorem ld_lawsRule {m : Mem} {cs : List Value} {K : AV → Prop} : onR (loadS Tryz.prog 26 m (.at (.pi cs))) K = (2 ≤ cs.length ∧ evK (todo ((cs.take 2).map A.v)) fun cs => K (.ag cs)) := load_piN agg_lawsRule sz_lawsRule
theorem ti_lawsRule : tiOf Tryz.prog 26 = some ⟨[⟨ "Most", 3, 0, false, "", "", 0⟩, ⟨ "Window", 3, 1, false, "", "", 8⟩], [.v (.int .i64 0), .v (.int .i64 0)]⟩ := by kernel_rfl
theorem lp_lawsRule {κ ver sz j off : Nat} {m : Mem} {K : AV → Prop} : loadK Tryz.prog 26 m (.at (.pa κ ver sz j off)) K = (off + 2 ≤ sz ∧ rowAt (todo (m κ)) ver sz j fun r => evK (todo (((r.drop off).take 2).map A.v)) fun cs => K (.ag cs)) := loadK_paB agg_lawsRule sz_lawsRule
attribute [go_sem] ld_lawsRule ti_lawsRule lp_lawsRule
theorem fp_lawsRule_0 {cs : List Value} {K : AV → Prop} : onO (fieldAddrS Tryz.prog 26 0 (.at (.pi cs))) K = evK (todo (cs.drop 0)) (fun c => K (.at (.pi c))) := fa_pi (fd := ⟨ "Most", 3, 0, false, "", "", 0⟩) Tryz.underlying26 rfl sz_int
theorem fo_lawsRule_0 {κ ver sz i off : Nat} {K : AV → Prop} : onO (fieldAddrS Tryz.prog 26 0 (.at (.pa κ ver sz i off))) K = evK (todo (off + 0)) (fun o => K (.at (.pa κ ver sz i o))) := fa_pa (fd := ⟨ "Most", 3, 0, false, "", "", 0⟩) Tryz.underlying26 rfl sz_int
theorem fb_lawsRule_0 {κ ver off : Nat} {K : AV → Prop} : onO (fieldAddrS Tryz.prog 26 0 (.at (.bx κ ver off))) K = evK (todo (off + 0)) (fun o => K (.at (.bx κ ver o))) := fa_bx (fd := ⟨ "Most", 3, 0, false, "", "", 0⟩) Tryz.underlying26 rfl sz_int
theorem fg_lawsRule_0 {cs : List A} {K : AV → Prop} : onR (fieldS Tryz.prog 26 0 (.ag cs)) K = onO (todo cs[0]?) fun a => K (.at a) := field_1K (fd := ⟨ "Most", 3, 0, false, "", "", 0⟩) Tryz.underlying26 rfl agg_int
attribute [go_sem] fp_lawsRule_0 fo_lawsRule_0 fb_lawsRule_0 fg_lawsRule_0
theorem fp_lawsRule_1 {cs : List Value} {K : AV → Prop} : onO (fieldAddrS Tryz.prog 26 1 (.at (.pi cs))) K = evK (todo (cs.drop 1)) (fun c => K (.at (.pi c))) := fa_pi (fd := ⟨ "Window", 3, 1, false, "", "", 8⟩) Tryz.underlying26 rfl sz_int
theorem fo_lawsRule_1 {κ ver sz i off : Nat} {K : AV → Prop} : onO (fieldAddrS Tryz.prog 26 1 (.at (.pa κ ver sz i off))) K = evK (todo (off + 1)) (fun o => K (.at (.pa κ ver sz i o))) := fa_pa (fd := ⟨ "Window", 3, 1, false, "", "", 8⟩) Tryz.underlying26 rfl sz_int
theorem fb_lawsRule_1 {κ ver off : Nat} {K : AV → Prop} : onO (fieldAddrS Tryz.prog 26 1 (.at (.bx κ ver off))) K = evK (todo (off + 1)) (fun o => K (.at (.bx κ ver o))) := fa_bx (fd := ⟨ "Window", 3, 1, false, "", "", 8⟩) Tryz.underlying26 rfl sz_int
theorem fg_lawsRule_1 {cs : List A} {K : AV → Prop} : onR (fieldS Tryz.prog 26 1 (.ag cs)) K = onO (todo cs[1]?) fun a => K (.at a) := field_1K (fd := ⟨ "Window", 3, 1, false, "", "", 8⟩) Tryz.underlying26 rfl agg_int
attribute [go_sem] fp_lawsRule_1 fo_lawsRule_1 fb_lawsRule_1 fg_lawsRule_1
theorem lb_lawsRule {m : Mem} {κ ver off : Nat} {K : AV → Prop} : onR (loadS Tryz.prog 26 m (.at (.bx κ ver off))) K = boxAt (todo (m κ)) ver fun cells => off + 2 ≤ cells.length ∧ evK (todo ((cells.drop off).take 2)) fun cs => K (.ag cs) := load_bxKN agg_lawsRule sz_lawsRule
theorem sb_lawsRule {m : Mem} {κ ver off : Nat} {X : AV} {K : Mem → Prop} : onR (storeS Tryz.prog 26 m (.at (.bx κ ver off)) X) K = boxAt (todo (m κ)) ver fun cells => onO (todo (atomsOf X)) fun new => new.length = 2 ∧ off + 2 ≤ cells.length ∧ evK (todo (splice cells off new)) fun cs => K (upd m κ (.box ver cs)) := store_bxK sz_lawsRule
theorem sp_lawsRule {m : Mem} {κ ver sz j off : Nat} {X : AV} {K : Mem → Prop} : onR (storeS Tryz.prog 26 m (.at (.pa κ ver sz j off)) X) K = arrAt (todo (m κ)) ver sz fun rows => onO (todo ((atomsOf X).bind valsOf)) fun us => us.length = 2 ∧ (j < rows.length ∧ off + 2 ≤ sz) ∧ evK (todo (rows.set j (splice (rows.getD j []) off us))) fun rs => K (upd m κ (.arr ver sz rs)) := store_paK sz_lawsRule
attribute [go_sem] lb_lawsRule sb_lawsRule sp_lawsRule
theorem agg_lawsMember : aggT Tryz.prog 204 = some true := by kernel_rfl
theorem sz_lawsMember : szT Tryz.prog 204 = some 4 := by kernel_rfl
theorem by_lawsMember : (Tryz.prog.info? 204).map (·.bytes) = some 32 := by kernel_rfl
theorem zv_lawsMember : zeroVals Tryz.prog 204 = some [.int .i64 0, .int .i64 0, .int .i64 0, .bool false] := by kernel_rfl
theorem za_lawsMember : zeroAtoms Tryz.prog 204 = some [.v (.int .i64 0), .v (.int .i64 0), .v (.int .i64 0), .v (.bool false)] := by kernel_rfl
attribute [go_sem] za_lawsMember sz_lawsMember
theorem ld_lawsMember {m : Mem} {cs : List Value} {K : AV → Prop} : onR (loadS Tryz.prog 204 m (.at (.pi cs))) K = (4 ≤ cs.length ∧ evK (todo ((cs.take 4).map A.v)) fun cs => K (.ag cs)) := load_piN agg_lawsMember sz_lawsMember
theorem ti_lawsMember : tiOf Tryz.prog 204 = some ⟨[⟨ "Id", 3, 0, false, "", "", 0⟩, ⟨ "Strength", 3, 1, false, "", "", 8⟩, ⟨ "Need", 3, 2, false, "", "", 16⟩, ⟨ "Ill", 4, 3, false, "", "", 24⟩], [.v (.int .i64 0), .v (.int .i64 0), .v (.int .i64 0), .v (.bool false)]⟩ := by kernel_rfl
theorem lp_lawsMember {κ ver sz j off : Nat} {m : Mem} {K : AV → Prop} : loadK Tryz.prog 204 m (.at (.pa κ ver sz j off)) K = (off + 4 ≤ sz ∧ rowAt (todo (m κ)) ver sz j fun r => evK (todo (((r.drop off).take 4).map A.v)) fun cs => K (.ag cs)) := loadK_paB agg_lawsMember sz_lawsMember
attribute [go_sem] ld_lawsMember ti_lawsMember lp_lawsMember
theorem fp_lawsMember_0 {cs : List Value} {K : AV → Prop} : onO (fieldAddrS Tryz.prog 204 0 (.at (.pi cs))) K = evK (todo (cs.drop 0)) (fun c => K (.at (.pi c))) := fa_pi (fd := ⟨ "Id", 3, 0, false, "", "", 0⟩) Tryz.underlying204 rfl sz_int
theorem fo_lawsMember_0 {κ ver sz i off : Nat} {K : AV → Prop} : onO (fieldAddrS Tryz.prog 204 0 (.at (.pa κ ver sz i off))) K = evK (todo (off + 0)) (fun o => K (.at (.pa κ ver sz i o))) := fa_pa (fd := ⟨ "Id", 3, 0, false, "", "", 0⟩) Tryz.underlying204 rfl sz_int
theorem fb_lawsMember_0 {κ ver off : Nat} {K : AV → Prop} : onO (fieldAddrS Tryz.prog 204 0 (.at (.bx κ ver off))) K = evK (todo (off + 0)) (fun o => K (.at (.bx κ ver o))) := fa_bx (fd := ⟨ "Id", 3, 0, false, "", "", 0⟩) Tryz.underlying204 rfl sz_int
theorem fg_lawsMember_0 {cs : List A} {K : AV → Prop} : onR (fieldS Tryz.prog 204 0 (.ag cs)) K = onO (todo cs[0]?) fun a => K (.at a) := field_1K (fd := ⟨ "Id", 3, 0, false, "", "", 0⟩) Tryz.underlying204 rfl agg_int
attribute [go_sem] fp_lawsMember_0 fo_lawsMember_0 fb_lawsMember_0 fg_lawsMember_0
theorem fp_lawsMember_1 {cs : List Value} {K : AV → Prop} : onO (fieldAddrS Tryz.prog 204 1 (.at (.pi cs))) K = evK (todo (cs.drop 1)) (fun c => K (.at (.pi c))) := fa_pi (fd := ⟨ "Strength", 3, 1, false, "", "", 8⟩) Tryz.underlying204 rfl sz_int
theorem fo_lawsMember_1 {κ ver sz i off : Nat} {K : AV → Prop} : onO (fieldAddrS Tryz.prog 204 1 (.at (.pa κ ver sz i off))) K = evK (todo (off + 1)) (fun o => K (.at (.pa κ ver sz i o))) := fa_pa (fd := ⟨ "Strength", 3, 1, false, "", "", 8⟩) Tryz.underlying204 rfl sz_int
theorem fb_lawsMember_1 {κ ver off : Nat} {K : AV → Prop} : onO (fieldAddrS Tryz.prog 204 1 (.at (.bx κ ver off))) K = evK (todo (off + 1)) (fun o => K (.at (.bx κ ver o))) := fa_bx (fd := ⟨ "Strength", 3, 1, false, "", "", 8⟩) Tryz.underlying204 rfl sz_int
theorem fg_lawsMember_1 {cs : List A} {K : AV → Prop} : onR (fieldS Tryz.prog 204 1 (.ag cs)) K = onO (todo cs[1]?) fun a => K (.at a) := field_1K (fd := ⟨ "Strength", 3, 1, false, "", "", 8⟩) Tryz.underlying204 rfl agg_int
attribute [go_sem] fp_lawsMember_1 fo_lawsMember_1 fb_lawsMember_1 fg_lawsMember_1
theorem fp_lawsMember_2 {cs : List Value} {K : AV → Prop} : onO (fieldAddrS Tryz.prog 204 2 (.at (.pi cs))) K = evK (todo (cs.drop 2)) (fun c => K (.at (.pi c))) := fa_pi (fd := ⟨ "Need", 3, 2, false, "", "", 16⟩) Tryz.underlying204 rfl sz_int
theorem fo_lawsMember_2 {κ ver sz i off : Nat} {K : AV → Prop} : onO (fieldAddrS Tryz.prog 204 2 (.at (.pa κ ver sz i off))) K = evK (todo (off + 2)) (fun o => K (.at (.pa κ ver sz i o))) := fa_pa (fd := ⟨ "Need", 3, 2, false, "", "", 16⟩) Tryz.underlying204 rfl sz_int
theorem fb_lawsMember_2 {κ ver off : Nat} {K : AV → Prop} : onO (fieldAddrS Tryz.prog 204 2 (.at (.bx κ ver off))) K = evK (todo (off + 2)) (fun o => K (.at (.bx κ ver o))) := fa_bx (fd := ⟨ "Need", 3, 2, false, "", "", 16⟩) Tryz.underlying204 rfl sz_int
theorem fg_lawsMember_2 {cs : List A} {K : AV → Prop} : onR (fieldS Tryz.prog 204 2 (.ag cs)) K = onO (todo cs[2]?) fun a => K (.at a) := field_1K (fd := ⟨ "Need", 3, 2, false, "", "", 16⟩) Tryz.underlying204 rfl agg_int
attribute [go_sem] fp_lawsMember_2 fo_lawsMember_2 fb_lawsMember_2 fg_lawsMember_2
theorem fp_lawsMember_3 {cs : List Value} {K : AV → Prop} : onO (fieldAddrS Tryz.prog 204 3 (.at (.pi cs))) K = evK (todo (cs.drop 3)) (fun c => K (.at (.pi c))) := fa_pi (fd := ⟨ "Ill", 4, 3, false, "", "", 24⟩) Tryz.underlying204 rfl sz_bool
theorem fo_lawsMember_3 {κ ver sz i off : Nat} {K : AV → Prop} : onO (fieldAddrS Tryz.prog 204 3 (.at (.pa κ ver sz i off))) K = evK (todo (off + 3)) (fun o => K (.at (.pa κ ver sz i o))) := fa_pa (fd := ⟨ "Ill", 4, 3, false, "", "", 24⟩) Tryz.underlying204 rfl sz_bool
theorem fb_lawsMember_3 {κ ver off : Nat} {K : AV → Prop} : onO (fieldAddrS Tryz.prog 204 3 (.at (.bx κ ver off))) K = evK (todo (off + 3)) (fun o => K (.at (.bx κ ver o))) := fa_bx (fd := ⟨ "Ill", 4, 3, false, "", "", 24⟩) Tryz.underlying204 rfl sz_bool
theorem fg_lawsMember_3 {cs : List A} {K : AV → Prop} : onR (fieldS Tryz.prog 204 3 (.ag cs)) K = onO (todo cs[3]?) fun a => K (.at a) := field_1K (fd := ⟨ "Ill", 4, 3, false, "", "", 24⟩) Tryz.underlying204 rfl agg_bool
attribute [go_sem] fp_lawsMember_3 fo_lawsMember_3 fb_lawsMember_3 fg_lawsMember_3
theorem lb_lawsMember {m : Mem} {κ ver off : Nat} {K : AV → Prop} : onR (loadS Tryz.prog 204 m (.at (.bx κ ver off))) K = boxAt (todo (m κ)) ver fun cells => off + 4 ≤ cells.length ∧ evK (todo ((cells.drop off).take 4)) fun cs => K (.ag cs) := load_bxKN agg_lawsMember sz_lawsMember
theorem sb_lawsMember {m : Mem} {κ ver off : Nat} {X : AV} {K : Mem → Prop} : onR (storeS Tryz.prog 204 m (.at (.bx κ ver off)) X) K = boxAt (todo (m κ)) ver fun cells => onO (todo (atomsOf X)) fun new => new.length = 4 ∧ off + 4 ≤ cells.length ∧ evK (todo (splice cells off new)) fun cs => K (upd m κ (.box ver cs)) := store_bxK sz_lawsMember
theorem sp_lawsMember {m : Mem} {κ ver sz j off : Nat} {X : AV} {K : Mem → Prop} : onR (storeS Tryz.prog 204 m (.at (.pa κ ver sz j off)) X) K = arrAt (todo (m κ)) ver sz fun rows => onO (todo ((atomsOf X).bind valsOf)) fun us => us.length = 4 ∧ (j < rows.length ∧ off + 4 ≤ sz) ∧ evK (todo (rows.set j (splice (rows.getD j []) off us))) fun rs => K (upd m κ (.arr ver sz rs)) := store_paK sz_lawsMember
attribute [go_sem] lb_lawsMember sb_lawsMember sp_lawsMember
theorem und_lawsMemberS : Tryz.prog.underlying 28 = some (.slice 204) := Tryz.underlying28
theorem agg_lawsMemberS : aggT Tryz.prog 28 = some false := by kernel_rfl
theorem sz_lawsMemberS : szT Tryz.prog 28 = some 1 := by kernel_rfl
theorem ix_lawsMemberS {rows : List (List Value)} {k : IntKind} {i : Int} {K : AV → Prop} : onR (indexAddrS Tryz.prog 28 (.at (.im 4 rows)) (.at (.v (.int k i)))) K = ((0 ≤ i ∧ i < (rows.length : Int)) ∧ ∀ r, rows[i.toNat]? = some r → K (.at (.pi r))) := idx_im und_lawsMemberS sz_lawsMember
theorem io_lawsMemberS {κ ver n : Nat} {k : IntKind} {i : Int} {K : AV → Prop} : onR (indexAddrS Tryz.prog 28 (.at (.ow κ ver 4 n)) (.at (.v (.int k i)))) K = ((0 ≤ i ∧ i < (n : Int)) ∧ evK (todo i.toNat) fun j => K (.at (.pa κ ver 4 j 0))) := idx_ow und_lawsMemberS sz_lawsMember
theorem ln_lawsMemberS {sz : Nat} {rows : List (List Value)} {K : Value → Prop} : onO (lenS Tryz.prog 28 (.at (.im sz rows))) K = K (.int .i64 rows.length) := len_im und_lawsMemberS
theorem lo_lawsMemberS {κ ver sz n : Nat} {K : Value → Prop} : onO (lenS Tryz.prog 28 (.at (.ow κ ver sz n))) K = K (.int .i64 n) := len_ow und_lawsMemberS
theorem lz_lawsMemberS {K : Value → Prop} : onO (lenS Tryz.prog 28 (.at .nil)) K = K (.int .i64 0) := len_nil und_lawsMemberS
theorem si_lawsMemberS : siOf Tryz.prog 28 = some ⟨204, 4, 32, [.int .i64 0, .int .i64 0, .int .i64 0, .bool false]⟩ := by kernel_rfl
theorem ci_lawsMemberS {nx : Nat} {q : Qm} {t : Nat → AV} {m : Mem} {rows : List (List Value)} {lo hi : Option Operand} {K : AV → Mem → Prop} : onM (sliceS Tryz.prog nx q 28 ⟨t, m⟩ (.at (.im 4 rows)) lo hi none) K = onO (todo (boundS ⟨t, m⟩ lo 0)) fun l => onO (todo (boundS ⟨t, m⟩ hi rows.length)) fun h => (0 ≤ l ∧ l ≤ h ∧ h ≤ (rows.length : Int)) ∧ evK (todo ((rows.drop l.toNat).take (h.toNat - l.toNat))) fun rs => K (.at (.im 4 rs)) m := cut_im_k und_lawsMemberS sz_lawsMember
theorem cn_lawsMemberS {nx : Nat} {q : Qm} {t : Nat → AV} {m : Mem} {lo hi : Option Operand} {K : AV → Mem → Prop} : onM (sliceS Tryz.prog nx q 28 ⟨t, m⟩ (.at .nil) lo hi none) K = onO (todo (boundS ⟨t, m⟩ lo 0)) fun l => onO (todo (boundS ⟨t, m⟩ hi 0)) fun h => (l = 0 ∧ h = 0) ∧ K (.at .nil) m := cut_nil_k und_lawsMemberS sz_lawsMember
attribute [go_sem] ix_lawsMemberS io_lawsMemberS ln_lawsMemberS lo_lawsMemberS lz_lawsMemberS si_lawsMemberS ci_lawsMemberS cn_lawsMemberS
attribute [go_sem] sz_lawsMemberS
theorem lb_lawsMemberS {m : Mem} {κ ver off : Nat} {K : AV → Prop} : onR (loadS Tryz.prog 28 m (.at (.bx κ ver off))) K = boxAt (todo (m κ)) ver fun cells => onO (todo cells[off]?) fun a => K (.at a) := load_bxK1 agg_lawsMemberS
theorem sb_lawsMemberS {m : Mem} {κ ver off : Nat} {X : AV} {K : Mem → Prop} : onR (storeS Tryz.prog 28 m (.at (.bx κ ver off)) X) K = boxAt (todo (m κ)) ver fun cells => onO (todo (atomsOf X)) fun new => new.length = 1 ∧ off + 1 ≤ cells.length ∧ evK (todo (splice cells off new)) fun cs => K (upd m κ (.box ver cs)) := store_bxK sz_lawsMemberS
theorem sp_lawsMemberS {m : Mem} {κ ver sz j off : Nat} {X : AV} {K : Mem → Prop} : onR (storeS Tryz.prog 28 m (.at (.pa κ ver sz j off)) X) K = arrAt (todo (m κ)) ver sz fun rows => onO (todo ((atomsOf X).bind valsOf)) fun us => us.length = 1 ∧ (j < rows.length ∧ off + 1 ≤ sz) ∧ evK (todo (rows.set j (splice (rows.getD j []) off us))) fun rs => K (upd m κ (.arr ver sz rs)) := store_paK sz_lawsMemberS
attribute [go_sem] lb_lawsMemberS sb_lawsMemberS sp_lawsMemberS
theorem agg_lawsDepot : aggT Tryz.prog 166 = some true := by kernel_rfl
theorem sz_lawsDepot : szT Tryz.prog 166 = some 2 := by kernel_rfl
theorem by_lawsDepot : (Tryz.prog.info? 166).map (·.bytes) = some 16 := by kernel_rfl
theorem zv_lawsDepot : zeroVals Tryz.prog 166 = some [.int .i64 0, .int .i64 0] := by kernel_rfl
theorem za_lawsDepot : zeroAtoms Tryz.prog 166 = some [.v (.int .i64 0), .v (.int .i64 0)] := by kernel_rfl
attribute [go_sem] za_lawsDepot sz_lawsDepot
theorem ld_lawsDepot {m : Mem} {cs : List Value} {K : AV → Prop} : onR (loadS Tryz.prog 166 m (.at (.pi cs))) K = (2 ≤ cs.length ∧ evK (todo ((cs.take 2).map A.v)) fun cs => K (.ag cs)) := load_piN agg_lawsDepot sz_lawsDepot
theorem ti_lawsDepot : tiOf Tryz.prog 166 = some ⟨[⟨ "Cell", 3, 0, false, "", "", 0⟩, ⟨ "Food", 3, 1, false, "", "", 8⟩], [.v (.int .i64 0), .v (.int .i64 0)]⟩ := by kernel_rfl
theorem lp_lawsDepot {κ ver sz j off : Nat} {m : Mem} {K : AV → Prop} : loadK Tryz.prog 166 m (.at (.pa κ ver sz j off)) K = (off + 2 ≤ sz ∧ rowAt (todo (m κ)) ver sz j fun r => evK (todo (((r.drop off).take 2).map A.v)) fun cs => K (.ag cs)) := loadK_paB agg_lawsDepot sz_lawsDepot
attribute [go_sem] ld_lawsDepot ti_lawsDepot lp_lawsDepot
theorem fp_lawsDepot_0 {cs : List Value} {K : AV → Prop} : onO (fieldAddrS Tryz.prog 166 0 (.at (.pi cs))) K = evK (todo (cs.drop 0)) (fun c => K (.at (.pi c))) := fa_pi (fd := ⟨ "Cell", 3, 0, false, "", "", 0⟩) Tryz.underlying166 rfl sz_int
theorem fo_lawsDepot_0 {κ ver sz i off : Nat} {K : AV → Prop} : onO (fieldAddrS Tryz.prog 166 0 (.at (.pa κ ver sz i off))) K = evK (todo (off + 0)) (fun o => K (.at (.pa κ ver sz i o))) := fa_pa (fd := ⟨ "Cell", 3, 0, false, "", "", 0⟩) Tryz.underlying166 rfl sz_int
theorem fb_lawsDepot_0 {κ ver off : Nat} {K : AV → Prop} : onO (fieldAddrS Tryz.prog 166 0 (.at (.bx κ ver off))) K = evK (todo (off + 0)) (fun o => K (.at (.bx κ ver o))) := fa_bx (fd := ⟨ "Cell", 3, 0, false, "", "", 0⟩) Tryz.underlying166 rfl sz_int
theorem fg_lawsDepot_0 {cs : List A} {K : AV → Prop} : onR (fieldS Tryz.prog 166 0 (.ag cs)) K = onO (todo cs[0]?) fun a => K (.at a) := field_1K (fd := ⟨ "Cell", 3, 0, false, "", "", 0⟩) Tryz.underlying166 rfl agg_int
attribute [go_sem] fp_lawsDepot_0 fo_lawsDepot_0 fb_lawsDepot_0 fg_lawsDepot_0
theorem fp_lawsDepot_1 {cs : List Value} {K : AV → Prop} : onO (fieldAddrS Tryz.prog 166 1 (.at (.pi cs))) K = evK (todo (cs.drop 1)) (fun c => K (.at (.pi c))) := fa_pi (fd := ⟨ "Food", 3, 1, false, "", "", 8⟩) Tryz.underlying166 rfl sz_int
theorem fo_lawsDepot_1 {κ ver sz i off : Nat} {K : AV → Prop} : onO (fieldAddrS Tryz.prog 166 1 (.at (.pa κ ver sz i off))) K = evK (todo (off + 1)) (fun o => K (.at (.pa κ ver sz i o))) := fa_pa (fd := ⟨ "Food", 3, 1, false, "", "", 8⟩) Tryz.underlying166 rfl sz_int
theorem fb_lawsDepot_1 {κ ver off : Nat} {K : AV → Prop} : onO (fieldAddrS Tryz.prog 166 1 (.at (.bx κ ver off))) K = evK (todo (off + 1)) (fun o => K (.at (.bx κ ver o))) := fa_bx (fd := ⟨ "Food", 3, 1, false, "", "", 8⟩) Tryz.underlying166 rfl sz_int
theorem fg_lawsDepot_1 {cs : List A} {K : AV → Prop} : onR (fieldS Tryz.prog 166 1 (.ag cs)) K = onO (todo cs[1]?) fun a => K (.at a) := field_1K (fd := ⟨ "Food", 3, 1, false, "", "", 8⟩) Tryz.underlying166 rfl agg_int
attribute [go_sem] fp_lawsDepot_1 fo_lawsDepot_1 fb_lawsDepot_1 fg_lawsDepot_1
theorem lb_lawsDepot {m : Mem} {κ ver off : Nat} {K : AV → Prop} : onR (loadS Tryz.prog 166 m (.at (.bx κ ver off))) K = boxAt (todo (m κ)) ver fun cells => off + 2 ≤ cells.length ∧ evK (todo ((cells.drop off).take 2)) fun cs => K (.ag cs) := load_bxKN agg_lawsDepot sz_lawsDepot
theorem sb_lawsDepot {m : Mem} {κ ver off : Nat} {X : AV} {K : Mem → Prop} : onR (storeS Tryz.prog 166 m (.at (.bx κ ver off)) X) K = boxAt (todo (m κ)) ver fun cells => onO (todo (atomsOf X)) fun new => new.length = 2 ∧ off + 2 ≤ cells.length ∧ evK (todo (splice cells off new)) fun cs => K (upd m κ (.box ver cs)) := store_bxK sz_lawsDepot
theorem sp_lawsDepot {m : Mem} {κ ver sz j off : Nat} {X : AV} {K : Mem → Prop} : onR (storeS Tryz.prog 166 m (.at (.pa κ ver sz j off)) X) K = arrAt (todo (m κ)) ver sz fun rows => onO (todo ((atomsOf X).bind valsOf)) fun us => us.length = 2 ∧ (j < rows.length ∧ off + 2 ≤ sz) ∧ evK (todo (rows.set j (splice (rows.getD j []) off us))) fun rs => K (upd m κ (.arr ver sz rs)) := store_paK sz_lawsDepot
attribute [go_sem] lb_lawsDepot sb_lawsDepot sp_lawsDepot
theorem und_lawsDepotS : Tryz.prog.underlying 27 = some (.slice 166) := Tryz.underlying27
theorem agg_lawsDepotS : aggT Tryz.prog 27 = some false := by kernel_rfl
theorem sz_lawsDepotS : szT Tryz.prog 27 = some 1 := by kernel_rfl
theorem ix_lawsDepotS {rows : List (List Value)} {k : IntKind} {i : Int} {K : AV → Prop} : onR (indexAddrS Tryz.prog 27 (.at (.im 2 rows)) (.at (.v (.int k i)))) K = ((0 ≤ i ∧ i < (rows.length : Int)) ∧ ∀ r, rows[i.toNat]? = some r → K (.at (.pi r))) := idx_im und_lawsDepotS sz_lawsDepot
theorem io_lawsDepotS {κ ver n : Nat} {k : IntKind} {i : Int} {K : AV → Prop} : onR (indexAddrS Tryz.prog 27 (.at (.ow κ ver 2 n)) (.at (.v (.int k i)))) K = ((0 ≤ i ∧ i < (n : Int)) ∧ evK (todo i.toNat) fun j => K (.at (.pa κ ver 2 j 0))) := idx_ow und_lawsDepotS sz_lawsDepot
theorem ln_lawsDepotS {sz : Nat} {rows : List (List Value)} {K : Value → Prop} : onO (lenS Tryz.prog 27 (.at (.im sz rows))) K = K (.int .i64 rows.length) := len_im und_lawsDepotS
theorem lo_lawsDepotS {κ ver sz n : Nat} {K : Value → Prop} : onO (lenS Tryz.prog 27 (.at (.ow κ ver sz n))) K = K (.int .i64 n) := len_ow und_lawsDepotS
theorem lz_lawsDepotS {K : Value → Prop} : onO (lenS Tryz.prog 27 (.at .nil)) K = K (.int .i64 0) := len_nil und_lawsDepotS
theorem si_lawsDepotS : siOf Tryz.prog 27 = some ⟨166, 2, 16, [.int .i64 0, .int .i64 0]⟩ := by kernel_rfl
theorem ci_lawsDepotS {nx : Nat} {q : Qm} {t : Nat → AV} {m : Mem} {rows : List (List Value)} {lo hi : Option Operand} {K : AV → Mem → Prop} : onM (sliceS Tryz.prog nx q 27 ⟨t, m⟩ (.at (.im 2 rows)) lo hi none) K = onO (todo (boundS ⟨t, m⟩ lo 0)) fun l => onO (todo (boundS ⟨t, m⟩ hi rows.length)) fun h => (0 ≤ l ∧ l ≤ h ∧ h ≤ (rows.length : Int)) ∧ evK (todo ((rows.drop l.toNat).take (h.toNat - l.toNat))) fun rs => K (.at (.im 2 rs)) m := cut_im_k und_lawsDepotS sz_lawsDepot
theorem cn_lawsDepotS {nx : Nat} {q : Qm} {t : Nat → AV} {m : Mem} {lo hi : Option Operand} {K : AV → Mem → Prop} : onM (sliceS Tryz.prog nx q 27 ⟨t, m⟩ (.at .nil) lo hi none) K = onO (todo (boundS ⟨t, m⟩ lo 0)) fun l => onO (todo (boundS ⟨t, m⟩ hi 0)) fun h => (l = 0 ∧ h = 0) ∧ K (.at .nil) m := cut_nil_k und_lawsDepotS sz_lawsDepot
attribute [go_sem] ix_lawsDepotS io_lawsDepotS ln_lawsDepotS lo_lawsDepotS lz_lawsDepotS si_lawsDepotS ci_lawsDepotS cn_lawsDepotS
attribute [go_sem] sz_lawsDepotS
theorem lb_lawsDepotS {m : Mem} {κ ver off : Nat} {K : AV → Prop} : onR (loadS Tryz.prog 27 m (.at (.bx κ ver off))) K = boxAt (todo (m κ)) ver fun cells => onO (todo cells[off]?) fun a => K (.at a) := load_bxK1 agg_lawsDepotS
theorem sb_lawsDepotS {m : Mem} {κ ver off : Nat} {X : AV} {K : Mem → Prop} : onR (storeS Tryz.prog 27 m (.at (.bx κ ver off)) X) K = boxAt (todo (m κ)) ver fun cells => onO (todo (atomsOf X)) fun new => new.length = 1 ∧ off + 1 ≤ cells.length ∧ evK (todo (splice cells off new)) fun cs => K (upd m κ (.box ver cs)) := store_bxK sz_lawsDepotS
theorem sp_lawsDepotS {m : Mem} {κ ver sz j off : Nat} {X : AV} {K : Mem → Prop} : onR (storeS Tryz.prog 27 m (.at (.pa κ ver sz j off)) X) K = arrAt (todo (m κ)) ver sz fun rows => onO (todo ((atomsOf X).bind valsOf)) fun us => us.length = 1 ∧ (j < rows.length ∧ off + 1 ≤ sz) ∧ evK (todo (rows.set j (splice (rows.getD j []) off us))) fun rs => K (upd m κ (.arr ver sz rs)) := store_paK sz_lawsDepotS
attribute [go_sem] lb_lawsDepotS sb_lawsDepotS sp_lawsDepotS
theorem agg_lawsParty : aggT Tryz.prog 31 = some true := by kernel_rfl
theorem sz_lawsParty : szT Tryz.prog 31 = some 4 := by kernel_rfl
theorem by_lawsParty : (Tryz.prog.info? 31).map (·.bytes) = some 64 := by kernel_rfl
theorem zv_lawsParty : zeroVals Tryz.prog 31 = some [.int .i64 0, .int .i64 0, .slice none 0 0, .slice none 0 0] := by kernel_rfl
theorem za_lawsParty : zeroAtoms Tryz.prog 31 = some [.v (.int .i64 0), .v (.int .i64 0), .nil, .nil] := by kernel_rfl
attribute [go_sem] za_lawsParty sz_lawsParty
theorem ld_lawsParty {m : Mem} {cs : List Value} {K : AV → Prop} : onR (loadS Tryz.prog 31 m (.at (.pi cs))) K = (4 ≤ cs.length ∧ evK (todo ((cs.take 4).map A.v)) fun cs => K (.ag cs)) := load_piN agg_lawsParty sz_lawsParty
theorem ti_lawsParty : tiOf Tryz.prog 31 = some ⟨[⟨ "At", 3, 0, false, "", "", 0⟩, ⟨ "Food", 3, 1, false, "", "", 8⟩, ⟨ "Crew", 28, 2, false, "", "", 16⟩, ⟨ "Past", 29, 3, false, "", "", 40⟩], [.v (.int .i64 0), .v (.int .i64 0), .nil, .nil]⟩ := by kernel_rfl
theorem lp_lawsParty {κ ver sz j off : Nat} {m : Mem} {K : AV → Prop} : loadK Tryz.prog 31 m (.at (.pa κ ver sz j off)) K = (off + 4 ≤ sz ∧ rowAt (todo (m κ)) ver sz j fun r => evK (todo (((r.drop off).take 4).map A.v)) fun cs => K (.ag cs)) := loadK_paB agg_lawsParty sz_lawsParty
attribute [go_sem] ld_lawsParty ti_lawsParty lp_lawsParty
theorem fp_lawsParty_0 {cs : List Value} {K : AV → Prop} : onO (fieldAddrS Tryz.prog 31 0 (.at (.pi cs))) K = evK (todo (cs.drop 0)) (fun c => K (.at (.pi c))) := fa_pi (fd := ⟨ "At", 3, 0, false, "", "", 0⟩) Tryz.underlying31 rfl sz_int
theorem fo_lawsParty_0 {κ ver sz i off : Nat} {K : AV → Prop} : onO (fieldAddrS Tryz.prog 31 0 (.at (.pa κ ver sz i off))) K = evK (todo (off + 0)) (fun o => K (.at (.pa κ ver sz i o))) := fa_pa (fd := ⟨ "At", 3, 0, false, "", "", 0⟩) Tryz.underlying31 rfl sz_int
theorem fb_lawsParty_0 {κ ver off : Nat} {K : AV → Prop} : onO (fieldAddrS Tryz.prog 31 0 (.at (.bx κ ver off))) K = evK (todo (off + 0)) (fun o => K (.at (.bx κ ver o))) := fa_bx (fd := ⟨ "At", 3, 0, false, "", "", 0⟩) Tryz.underlying31 rfl sz_int
theorem fg_lawsParty_0 {cs : List A} {K : AV → Prop} : onR (fieldS Tryz.prog 31 0 (.ag cs)) K = onO (todo cs[0]?) fun a => K (.at a) := field_1K (fd := ⟨ "At", 3, 0, false, "", "", 0⟩) Tryz.underlying31 rfl agg_int
attribute [go_sem] fp_lawsParty_0 fo_lawsParty_0 fb_lawsParty_0 fg_lawsParty_0
theorem fp_lawsParty_1 {cs : List Value} {K : AV → Prop} : onO (fieldAddrS Tryz.prog 31 1 (.at (.pi cs))) K = evK (todo (cs.drop 1)) (fun c => K (.at (.pi c))) := fa_pi (fd := ⟨ "Food", 3, 1, false, "", "", 8⟩) Tryz.underlying31 rfl sz_int
theorem fo_lawsParty_1 {κ ver sz i off : Nat} {K : AV → Prop} : onO (fieldAddrS Tryz.prog 31 1 (.at (.pa κ ver sz i off))) K = evK (todo (off + 1)) (fun o => K (.at (.pa κ ver sz i o))) := fa_pa (fd := ⟨ "Food", 3, 1, false, "", "", 8⟩) Tryz.underlying31 rfl sz_int
theorem fb_lawsParty_1 {κ ver off : Nat} {K : AV → Prop} : onO (fieldAddrS Tryz.prog 31 1 (.at (.bx κ ver off))) K = evK (todo (off + 1)) (fun o => K (.at (.bx κ ver o))) := fa_bx (fd := ⟨ "Food", 3, 1, false, "", "", 8⟩) Tryz.underlying31 rfl sz_int
theorem fg_lawsParty_1 {cs : List A} {K : AV → Prop} : onR (fieldS Tryz.prog 31 1 (.ag cs)) K = onO (todo cs[1]?) fun a => K (.at a) := field_1K (fd := ⟨ "Food", 3, 1, false, "", "", 8⟩) Tryz.underlying31 rfl agg_int
attribute [go_sem] fp_lawsParty_1 fo_lawsParty_1 fb_lawsParty_1 fg_lawsParty_1
theorem fp_lawsParty_2 {cs : List Value} {K : AV → Prop} : onO (fieldAddrS Tryz.prog 31 2 (.at (.pi cs))) K = evK (todo (cs.drop 2)) (fun c => K (.at (.pi c))) := fa_pi (fd := ⟨ "Crew", 28, 2, false, "", "", 16⟩) Tryz.underlying31 rfl sz_lawsMemberS
theorem fo_lawsParty_2 {κ ver sz i off : Nat} {K : AV → Prop} : onO (fieldAddrS Tryz.prog 31 2 (.at (.pa κ ver sz i off))) K = evK (todo (off + 2)) (fun o => K (.at (.pa κ ver sz i o))) := fa_pa (fd := ⟨ "Crew", 28, 2, false, "", "", 16⟩) Tryz.underlying31 rfl sz_lawsMemberS
theorem fb_lawsParty_2 {κ ver off : Nat} {K : AV → Prop} : onO (fieldAddrS Tryz.prog 31 2 (.at (.bx κ ver off))) K = evK (todo (off + 2)) (fun o => K (.at (.bx κ ver o))) := fa_bx (fd := ⟨ "Crew", 28, 2, false, "", "", 16⟩) Tryz.underlying31 rfl sz_lawsMemberS
theorem fg_lawsParty_2 {cs : List A} {K : AV → Prop} : onR (fieldS Tryz.prog 31 2 (.ag cs)) K = onO (todo cs[2]?) fun a => K (.at a) := field_1K (fd := ⟨ "Crew", 28, 2, false, "", "", 16⟩) Tryz.underlying31 rfl agg_lawsMemberS
attribute [go_sem] fp_lawsParty_2 fo_lawsParty_2 fb_lawsParty_2 fg_lawsParty_2
theorem fp_lawsParty_3 {cs : List Value} {K : AV → Prop} : onO (fieldAddrS Tryz.prog 31 3 (.at (.pi cs))) K = evK (todo (cs.drop 3)) (fun c => K (.at (.pi c))) := fa_pi (fd := ⟨ "Past", 29, 3, false, "", "", 40⟩) Tryz.underlying31 rfl sz_boolS
theorem fo_lawsParty_3 {κ ver sz i off : Nat} {K : AV → Prop} : onO (fieldAddrS Tryz.prog 31 3 (.at (.pa κ ver sz i off))) K = evK (todo (off + 3)) (fun o => K (.at (.pa κ ver sz i o))) := fa_pa (fd := ⟨ "Past", 29, 3, false, "", "", 40⟩) Tryz.underlying31 rfl sz_boolS
theorem fb_lawsParty_3 {κ ver off : Nat} {K : AV → Prop} : onO (fieldAddrS Tryz.prog 31 3 (.at (.bx κ ver off))) K = evK (todo (off + 3)) (fun o => K (.at (.bx κ ver o))) := fa_bx (fd := ⟨ "Past", 29, 3, false, "", "", 40⟩) Tryz.underlying31 rfl sz_boolS
theorem fg_lawsParty_3 {cs : List A} {K : AV → Prop} : onR (fieldS Tryz.prog 31 3 (.ag cs)) K = onO (todo cs[3]?) fun a => K (.at a) := field_1K (fd := ⟨ "Past", 29, 3, false, "", "", 40⟩) Tryz.underlying31 rfl agg_boolS
attribute [go_sem] fp_lawsParty_3 fo_lawsParty_3 fb_lawsParty_3 fg_lawsParty_3
theorem lb_lawsParty {m : Mem} {κ ver off : Nat} {K : AV → Prop} : onR (loadS Tryz.prog 31 m (.at (.bx κ ver off))) K = boxAt (todo (m κ)) ver fun cells => off + 4 ≤ cells.length ∧ evK (todo ((cells.drop off).take 4)) fun cs => K (.ag cs) := load_bxKN agg_lawsParty sz_lawsParty
theorem sb_lawsParty {m : Mem} {κ ver off : Nat} {X : AV} {K : Mem → Prop} : onR (storeS Tryz.prog 31 m (.at (.bx κ ver off)) X) K = boxAt (todo (m κ)) ver fun cells => onO (todo (atomsOf X)) fun new => new.length = 4 ∧ off + 4 ≤ cells.length ∧ evK (todo (splice cells off new)) fun cs => K (upd m κ (.box ver cs)) := store_bxK sz_lawsParty
theorem sp_lawsParty {m : Mem} {κ ver sz j off : Nat} {X : AV} {K : Mem → Prop} : onR (storeS Tryz.prog 31 m (.at (.pa κ ver sz j off)) X) K = arrAt (todo (m κ)) ver sz fun rows => onO (todo ((atomsOf X).bind valsOf)) fun us => us.length = 4 ∧ (j < rows.length ∧ off + 4 ≤ sz) ∧ evK (todo (rows.set j (splice (rows.getD j []) off us))) fun rs => K (upd m κ (.arr ver sz rs)) := store_paK sz_lawsParty
attribute [go_sem] lb_lawsParty sb_lawsParty sp_lawsParty
theorem agg_lawsTrek : aggT Tryz.prog 34 = some true := by kernel_rfl
theorem sz_lawsTrek : szT Tryz.prog 34 = some 15 := by kernel_rfl
theorem by_lawsTrek : (Tryz.prog.info? 34).map (·.bytes) = some 200 := by kernel_rfl
theorem zv_lawsTrek : zeroVals Tryz.prog 34 = some [.int .i64 0, .int .i64 0, .slice none 0 0, .int .i64 0, .int .i64 0, .int .i64 0, .slice none 0 0, .int .i64 0, .int .i64 0, .slice none 0 0, .slice none 0 0, .slice none 0 0, .int .i64 0, .int .i64 0, .int .i64 0] := by kernel_rfl
theorem za_lawsTrek : zeroAtoms Tryz.prog 34 = some [.v (.int .i64 0), .v (.int .i64 0), .nil, .v (.int .i64 0), .v (.int .i64 0), .v (.int .i64 0), .nil, .v (.int .i64 0), .v (.int .i64 0), .nil, .nil, .nil, .v (.int .i64 0), .v (.int .i64 0), .v (.int .i64 0)] := by kernel_rfl
attribute [go_sem] za_lawsTrek sz_lawsTrek
theorem ld_lawsTrek {m : Mem} {cs : List Value} {K : AV → Prop} : onR (loadS Tryz.prog 34 m (.at (.pi cs))) K = (15 ≤ cs.length ∧ evK (todo ((cs.take 15).map A.v)) fun cs => K (.ag cs)) := load_piN agg_lawsTrek sz_lawsTrek
theorem ti_lawsTrek : tiOf Tryz.prog 34 = some ⟨[⟨ "Land", 24, 0, false, "", "", 0⟩, ⟨ "Base", 3, 3, false, "", "", 40⟩, ⟨ "Rule", 26, 4, false, "", "", 48⟩, ⟨ "Depots", 27, 6, false, "", "", 64⟩, ⟨ "Party", 31, 7, false, "", "", 88⟩, ⟨ "Journal", 32, 11, false, "", "", 152⟩, ⟨ "Day", 3, 12, false, "", "", 176⟩, ⟨ "Given", 3, 13, false, "", "", 184⟩, ⟨ "Eaten", 3, 14, false, "", "", 192⟩], [.v (.int .i64 0), .v (.int .i64 0), .nil, .v (.int .i64 0), .v (.int .i64 0), .v (.int .i64 0), .nil, .v (.int .i64 0), .v (.int .i64 0), .nil, .nil, .nil, .v (.int .i64 0), .v (.int .i64 0), .v (.int .i64 0)]⟩ := by kernel_rfl
theorem lp_lawsTrek {κ ver sz j off : Nat} {m : Mem} {K : AV → Prop} : loadK Tryz.prog 34 m (.at (.pa κ ver sz j off)) K = (off + 15 ≤ sz ∧ rowAt (todo (m κ)) ver sz j fun r => evK (todo (((r.drop off).take 15).map A.v)) fun cs => K (.ag cs)) := loadK_paB agg_lawsTrek sz_lawsTrek
attribute [go_sem] ld_lawsTrek ti_lawsTrek lp_lawsTrek
theorem fp_lawsTrek_0 {cs : List Value} {K : AV → Prop} : onO (fieldAddrS Tryz.prog 34 0 (.at (.pi cs))) K = evK (todo (cs.drop 0)) (fun c => K (.at (.pi c))) := fa_pi (fd := ⟨ "Land", 24, 0, false, "", "", 0⟩) Tryz.underlying34 rfl sz_lawsLand
theorem fo_lawsTrek_0 {κ ver sz i off : Nat} {K : AV → Prop} : onO (fieldAddrS Tryz.prog 34 0 (.at (.pa κ ver sz i off))) K = evK (todo (off + 0)) (fun o => K (.at (.pa κ ver sz i o))) := fa_pa (fd := ⟨ "Land", 24, 0, false, "", "", 0⟩) Tryz.underlying34 rfl sz_lawsLand
theorem fb_lawsTrek_0 {κ ver off : Nat} {K : AV → Prop} : onO (fieldAddrS Tryz.prog 34 0 (.at (.bx κ ver off))) K = evK (todo (off + 0)) (fun o => K (.at (.bx κ ver o))) := fa_bx (fd := ⟨ "Land", 24, 0, false, "", "", 0⟩) Tryz.underlying34 rfl sz_lawsLand
theorem fg_lawsTrek_0 {cs : List A} {K : AV → Prop} : onR (fieldS Tryz.prog 34 0 (.ag cs)) K = (0 + 3 ≤ cs.length ∧ evK (todo ((cs.drop 0).take 3)) fun cs => K (.ag cs)) := field_N (fd := ⟨ "Land", 24, 0, false, "", "", 0⟩) Tryz.underlying34 rfl agg_lawsLand sz_lawsLand
attribute [go_sem] fp_lawsTrek_0 fo_lawsTrek_0 fb_lawsTrek_0 fg_lawsTrek_0
theorem fp_lawsTrek_1 {cs : List Value} {K : AV → Prop} : onO (fieldAddrS Tryz.prog 34 1 (.at (.pi cs))) K = evK (todo (cs.drop 3)) (fun c => K (.at (.pi c))) := fa_pi (fd := ⟨ "Base", 3, 3, false, "", "", 40⟩) Tryz.underlying34 rfl sz_int
theorem fo_lawsTrek_1 {κ ver sz i off : Nat} {K : AV → Prop} : onO (fieldAddrS Tryz.prog 34 1 (.at (.pa κ ver sz i off))) K = evK (todo (off + 3)) (fun o => K (.at (.pa κ ver sz i o))) := fa_pa (fd := ⟨ "Base", 3, 3, false, "", "", 40⟩) Tryz.underlying34 rfl sz_int
theorem fb_lawsTrek_1 {κ ver off : Nat} {K : AV → Prop} : onO (fieldAddrS Tryz.prog 34 1 (.at (.bx κ ver off))) K = evK (todo (off + 3)) (fun o => K (.at (.bx κ ver o))) := fa_bx (fd := ⟨ "Base", 3, 3, false, "", "", 40⟩) Tryz.underlying34 rfl sz_int
theorem fg_lawsTrek_1 {cs : List A} {K : AV → Prop} : onR (fieldS Tryz.prog 34 1 (.ag cs)) K = onO (todo cs[3]?) fun a => K (.at a) := field_1K (fd := ⟨ "Base", 3, 3, false, "", "", 40⟩) Tryz.underlying34 rfl agg_int
attribute [go_sem] fp_lawsTrek_1 fo_lawsTrek_1 fb_lawsTrek_1 fg_lawsTrek_1
theorem fp_lawsTrek_2 {cs : List Value} {K : AV → Prop} : onO (fieldAddrS Tryz.prog 34 2 (.at (.pi cs))) K = evK (todo (cs.drop 4)) (fun c => K (.at (.pi c))) := fa_pi (fd := ⟨ "Rule", 26, 4, false, "", "", 48⟩) Tryz.underlying34 rfl sz_lawsRule
theorem fo_lawsTrek_2 {κ ver sz i off : Nat} {K : AV → Prop} : onO (fieldAddrS Tryz.prog 34 2 (.at (.pa κ ver sz i off))) K = evK (todo (off + 4)) (fun o => K (.at (.pa κ ver sz i o))) := fa_pa (fd := ⟨ "Rule", 26, 4, false, "", "", 48⟩) Tryz.underlying34 rfl sz_lawsRule
theorem fb_lawsTrek_2 {κ ver off : Nat} {K : AV → Prop} : onO (fieldAddrS Tryz.prog 34 2 (.at (.bx κ ver off))) K = evK (todo (off + 4)) (fun o => K (.at (.bx κ ver o))) := fa_bx (fd := ⟨ "Rule", 26, 4, false, "", "", 48⟩) Tryz.underlying34 rfl sz_lawsRule
theorem fg_lawsTrek_2 {cs : List A} {K : AV → Prop} : onR (fieldS Tryz.prog 34 2 (.ag cs)) K = (4 + 2 ≤ cs.length ∧ evK (todo ((cs.drop 4).take 2)) fun cs => K (.ag cs)) := field_N (fd := ⟨ "Rule", 26, 4, false, "", "", 48⟩) Tryz.underlying34 rfl agg_lawsRule sz_lawsRule
attribute [go_sem] fp_lawsTrek_2 fo_lawsTrek_2 fb_lawsTrek_2 fg_lawsTrek_2
theorem fp_lawsTrek_3 {cs : List Value} {K : AV → Prop} : onO (fieldAddrS Tryz.prog 34 3 (.at (.pi cs))) K = evK (todo (cs.drop 6)) (fun c => K (.at (.pi c))) := fa_pi (fd := ⟨ "Depots", 27, 6, false, "", "", 64⟩) Tryz.underlying34 rfl sz_lawsDepotS
theorem fo_lawsTrek_3 {κ ver sz i off : Nat} {K : AV → Prop} : onO (fieldAddrS Tryz.prog 34 3 (.at (.pa κ ver sz i off))) K = evK (todo (off + 6)) (fun o => K (.at (.pa κ ver sz i o))) := fa_pa (fd := ⟨ "Depots", 27, 6, false, "", "", 64⟩) Tryz.underlying34 rfl sz_lawsDepotS
theorem fb_lawsTrek_3 {κ ver off : Nat} {K : AV → Prop} : onO (fieldAddrS Tryz.prog 34 3 (.at (.bx κ ver off))) K = evK (todo (off + 6)) (fun o => K (.at (.bx κ ver o))) := fa_bx (fd := ⟨ "Depots", 27, 6, false, "", "", 64⟩) Tryz.underlying34 rfl sz_lawsDepotS
theorem fg_lawsTrek_3 {cs : List A} {K : AV → Prop} : onR (fieldS Tryz.prog 34 3 (.ag cs)) K = onO (todo cs[6]?) fun a => K (.at a) := field_1K (fd := ⟨ "Depots", 27, 6, false, "", "", 64⟩) Tryz.underlying34 rfl agg_lawsDepotS
attribute [go_sem] fp_lawsTrek_3 fo_lawsTrek_3 fb_lawsTrek_3 fg_lawsTrek_3
theorem fp_lawsTrek_4 {cs : List Value} {K : AV → Prop} : onO (fieldAddrS Tryz.prog 34 4 (.at (.pi cs))) K = evK (todo (cs.drop 7)) (fun c => K (.at (.pi c))) := fa_pi (fd := ⟨ "Party", 31, 7, false, "", "", 88⟩) Tryz.underlying34 rfl sz_lawsParty
theorem fo_lawsTrek_4 {κ ver sz i off : Nat} {K : AV → Prop} : onO (fieldAddrS Tryz.prog 34 4 (.at (.pa κ ver sz i off))) K = evK (todo (off + 7)) (fun o => K (.at (.pa κ ver sz i o))) := fa_pa (fd := ⟨ "Party", 31, 7, false, "", "", 88⟩) Tryz.underlying34 rfl sz_lawsParty
theorem fb_lawsTrek_4 {κ ver off : Nat} {K : AV → Prop} : onO (fieldAddrS Tryz.prog 34 4 (.at (.bx κ ver off))) K = evK (todo (off + 7)) (fun o => K (.at (.bx κ ver o))) := fa_bx (fd := ⟨ "Party", 31, 7, false, "", "", 88⟩) Tryz.underlying34 rfl sz_lawsParty
theorem fg_lawsTrek_4 {cs : List A} {K : AV → Prop} : onR (fieldS Tryz.prog 34 4 (.ag cs)) K = (7 + 4 ≤ cs.length ∧ evK (todo ((cs.drop 7).take 4)) fun cs => K (.ag cs)) := field_N (fd := ⟨ "Party", 31, 7, false, "", "", 88⟩) Tryz.underlying34 rfl agg_lawsParty sz_lawsParty
attribute [go_sem] fp_lawsTrek_4 fo_lawsTrek_4 fb_lawsTrek_4 fg_lawsTrek_4
theorem fp_lawsTrek_5 {cs : List Value} {K : AV → Prop} : onO (fieldAddrS Tryz.prog 34 5 (.at (.pi cs))) K = evK (todo (cs.drop 11)) (fun c => K (.at (.pi c))) := fa_pi (fd := ⟨ "Journal", 32, 11, false, "", "", 152⟩) Tryz.underlying34 rfl sz_lawsPageS
theorem fo_lawsTrek_5 {κ ver sz i off : Nat} {K : AV → Prop} : onO (fieldAddrS Tryz.prog 34 5 (.at (.pa κ ver sz i off))) K = evK (todo (off + 11)) (fun o => K (.at (.pa κ ver sz i o))) := fa_pa (fd := ⟨ "Journal", 32, 11, false, "", "", 152⟩) Tryz.underlying34 rfl sz_lawsPageS
theorem fb_lawsTrek_5 {κ ver off : Nat} {K : AV → Prop} : onO (fieldAddrS Tryz.prog 34 5 (.at (.bx κ ver off))) K = evK (todo (off + 11)) (fun o => K (.at (.bx κ ver o))) := fa_bx (fd := ⟨ "Journal", 32, 11, false, "", "", 152⟩) Tryz.underlying34 rfl sz_lawsPageS
theorem fg_lawsTrek_5 {cs : List A} {K : AV → Prop} : onR (fieldS Tryz.prog 34 5 (.ag cs)) K = onO (todo cs[11]?) fun a => K (.at a) := field_1K (fd := ⟨ "Journal", 32, 11, false, "", "", 152⟩) Tryz.underlying34 rfl agg_lawsPageS
attribute [go_sem] fp_lawsTrek_5 fo_lawsTrek_5 fb_lawsTrek_5 fg_lawsTrek_5
theorem fp_lawsTrek_6 {cs : List Value} {K : AV → Prop} : onO (fieldAddrS Tryz.prog 34 6 (.at (.pi cs))) K = evK (todo (cs.drop 12)) (fun c => K (.at (.pi c))) := fa_pi (fd := ⟨ "Day", 3, 12, false, "", "", 176⟩) Tryz.underlying34 rfl sz_int
theorem fo_lawsTrek_6 {κ ver sz i off : Nat} {K : AV → Prop} : onO (fieldAddrS Tryz.prog 34 6 (.at (.pa κ ver sz i off))) K = evK (todo (off + 12)) (fun o => K (.at (.pa κ ver sz i o))) := fa_pa (fd := ⟨ "Day", 3, 12, false, "", "", 176⟩) Tryz.underlying34 rfl sz_int
theorem fb_lawsTrek_6 {κ ver off : Nat} {K : AV → Prop} : onO (fieldAddrS Tryz.prog 34 6 (.at (.bx κ ver off))) K = evK (todo (off + 12)) (fun o => K (.at (.bx κ ver o))) := fa_bx (fd := ⟨ "Day", 3, 12, false, "", "", 176⟩) Tryz.underlying34 rfl sz_int
theorem fg_lawsTrek_6 {cs : List A} {K : AV → Prop} : onR (fieldS Tryz.prog 34 6 (.ag cs)) K = onO (todo cs[12]?) fun a => K (.at a) := field_1K (fd := ⟨ "Day", 3, 12, false, "", "", 176⟩) Tryz.underlying34 rfl agg_int
attribute [go_sem] fp_lawsTrek_6 fo_lawsTrek_6 fb_lawsTrek_6 fg_lawsTrek_6
theorem fp_lawsTrek_7 {cs : List Value} {K : AV → Prop} : onO (fieldAddrS Tryz.prog 34 7 (.at (.pi cs))) K = evK (todo (cs.drop 13)) (fun c => K (.at (.pi c))) := fa_pi (fd := ⟨ "Given", 3, 13, false, "", "", 184⟩) Tryz.underlying34 rfl sz_int
theorem fo_lawsTrek_7 {κ ver sz i off : Nat} {K : AV → Prop} : onO (fieldAddrS Tryz.prog 34 7 (.at (.pa κ ver sz i off))) K = evK (todo (off + 13)) (fun o => K (.at (.pa κ ver sz i o))) := fa_pa (fd := ⟨ "Given", 3, 13, false, "", "", 184⟩) Tryz.underlying34 rfl sz_int
theorem fb_lawsTrek_7 {κ ver off : Nat} {K : AV → Prop} : onO (fieldAddrS Tryz.prog 34 7 (.at (.bx κ ver off))) K = evK (todo (off + 13)) (fun o => K (.at (.bx κ ver o))) := fa_bx (fd := ⟨ "Given", 3, 13, false, "", "", 184⟩) Tryz.underlying34 rfl sz_int
theorem fg_lawsTrek_7 {cs : List A} {K : AV → Prop} : onR (fieldS Tryz.prog 34 7 (.ag cs)) K = onO (todo cs[13]?) fun a => K (.at a) := field_1K (fd := ⟨ "Given", 3, 13, false, "", "", 184⟩) Tryz.underlying34 rfl agg_int
attribute [go_sem] fp_lawsTrek_7 fo_lawsTrek_7 fb_lawsTrek_7 fg_lawsTrek_7
theorem fp_lawsTrek_8 {cs : List Value} {K : AV → Prop} : onO (fieldAddrS Tryz.prog 34 8 (.at (.pi cs))) K = evK (todo (cs.drop 14)) (fun c => K (.at (.pi c))) := fa_pi (fd := ⟨ "Eaten", 3, 14, false, "", "", 192⟩) Tryz.underlying34 rfl sz_int
theorem fo_lawsTrek_8 {κ ver sz i off : Nat} {K : AV → Prop} : onO (fieldAddrS Tryz.prog 34 8 (.at (.pa κ ver sz i off))) K = evK (todo (off + 14)) (fun o => K (.at (.pa κ ver sz i o))) := fa_pa (fd := ⟨ "Eaten", 3, 14, false, "", "", 192⟩) Tryz.underlying34 rfl sz_int
theorem fb_lawsTrek_8 {κ ver off : Nat} {K : AV → Prop} : onO (fieldAddrS Tryz.prog 34 8 (.at (.bx κ ver off))) K = evK (todo (off + 14)) (fun o => K (.at (.bx κ ver o))) := fa_bx (fd := ⟨ "Eaten", 3, 14, false, "", "", 192⟩) Tryz.underlying34 rfl sz_int
theorem fg_lawsTrek_8 {cs : List A} {K : AV → Prop} : onR (fieldS Tryz.prog 34 8 (.ag cs)) K = onO (todo cs[14]?) fun a => K (.at a) := field_1K (fd := ⟨ "Eaten", 3, 14, false, "", "", 192⟩) Tryz.underlying34 rfl agg_int
attribute [go_sem] fp_lawsTrek_8 fo_lawsTrek_8 fb_lawsTrek_8 fg_lawsTrek_8
theorem lb_lawsTrek {m : Mem} {κ ver off : Nat} {K : AV → Prop} : onR (loadS Tryz.prog 34 m (.at (.bx κ ver off))) K = boxAt (todo (m κ)) ver fun cells => off + 15 ≤ cells.length ∧ evK (todo ((cells.drop off).take 15)) fun cs => K (.ag cs) := load_bxKN agg_lawsTrek sz_lawsTrek
theorem sb_lawsTrek {m : Mem} {κ ver off : Nat} {X : AV} {K : Mem → Prop} : onR (storeS Tryz.prog 34 m (.at (.bx κ ver off)) X) K = boxAt (todo (m κ)) ver fun cells => onO (todo (atomsOf X)) fun new => new.length = 15 ∧ off + 15 ≤ cells.length ∧ evK (todo (splice cells off new)) fun cs => K (upd m κ (.box ver cs)) := store_bxK sz_lawsTrek
theorem sp_lawsTrek {m : Mem} {κ ver sz j off : Nat} {X : AV} {K : Mem → Prop} : onR (storeS Tryz.prog 34 m (.at (.pa κ ver sz j off)) X) K = arrAt (todo (m κ)) ver sz fun rows => onO (todo ((atomsOf X).bind valsOf)) fun us => us.length = 15 ∧ (j < rows.length ∧ off + 15 ≤ sz) ∧ evK (todo (rows.set j (splice (rows.getD j []) off us))) fun rs => K (upd m κ (.arr ver sz rs)) := store_paK sz_lawsTrek
attribute [go_sem] lb_lawsTrek sb_lawsTrek sp_lawsTrek
end Go.Abs
