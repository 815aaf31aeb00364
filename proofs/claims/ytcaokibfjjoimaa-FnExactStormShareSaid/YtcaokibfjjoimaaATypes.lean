/- Facts about the types of the program that is given, each by computing. -/
import Derived.Test.YtcaokibfjjoimaaASem
import Derived.Test.YtcaokibfjjoimaaProg
namespace Go.Abs
open Go.RowKit Go.Proofs
set_option linter.unusedVariables false
set_option linter.unusedSimpArgs false
set_option maxRecDepth 100000
theorem mixed : Try.prog.follows .mixedOrders = true := by kernel_rfl
theorem agg_int : aggT Try.prog 3 = some false := by kernel_rfl
theorem sz_int : szT Try.prog 3 = some 1 := by kernel_rfl
theorem by_int : (Try.prog.info? 3).map (·.bytes) = some 8 := by kernel_rfl
theorem zv_int : zeroVals Try.prog 3 = some [.int .i64 0] := by kernel_rfl
theorem za_int : zeroAtoms Try.prog 3 = some [.v (.int .i64 0)] := by kernel_rfl
attribute [go_sem] za_int sz_int
theorem ld_int {m : Mem} {cs : List Value} {K : AV → Prop} : onR (loadS Try.prog 3 m (.at (.pi cs))) K = (0 < cs.length ∧ evK (todo (cs.getD 0 undef)) fun u => K (.at (.v u))) := load_pi1 agg_int
theorem lp_int {κ ver sz j off : Nat} {m : Mem} {K : AV → Prop} : loadK Try.prog 3 m (.at (.pa κ ver sz j off)) K = (off < sz ∧ rowAt (todo (m κ)) ver sz j fun r => evK (todo (r.getD off undef)) fun u => K (.at (.v u))) := loadK_paA agg_int sz_int
attribute [go_sem] ld_int lp_int
theorem lb_int {m : Mem} {κ ver off : Nat} {K : AV → Prop} : onR (loadS Try.prog 3 m (.at (.bx κ ver off))) K = boxAt (todo (m κ)) ver fun cells => onO (todo cells[off]?) fun a => K (.at a) := load_bxK1 agg_int
theorem sb_int {m : Mem} {κ ver off : Nat} {X : AV} {K : Mem → Prop} : onR (storeS Try.prog 3 m (.at (.bx κ ver off)) X) K = boxAt (todo (m κ)) ver fun cells => onO (todo (atomsOf X)) fun new => new.length = 1 ∧ off + 1 ≤ cells.length ∧ evK (todo (splice cells off new)) fun cs => K (upd m κ (.box ver cs)) := store_bxK sz_int
theorem sp_int {m : Mem} {κ ver sz j off : Nat} {X : AV} {K : Mem → Prop} : onR (storeS Try.prog 3 m (.at (.pa κ ver sz j off)) X) K = arrAt (todo (m κ)) ver sz fun rows => onO (todo ((atomsOf X).bind valsOf)) fun us => us.length = 1 ∧ (j < rows.length ∧ off + 1 ≤ sz) ∧ evK (todo (rows.set j (splice (rows.getD j []) off us))) fun rs => K (upd m κ (.arr ver sz rs)) := store_paK sz_int
attribute [go_sem] lb_int sb_int sp_int
theorem agg_bool : aggT Try.prog 4 = some false := by kernel_rfl
theorem sz_bool : szT Try.prog 4 = some 1 := by kernel_rfl
theorem by_bool : (Try.prog.info? 4).map (·.bytes) = some 1 := by kernel_rfl
theorem zv_bool : zeroVals Try.prog 4 = some [.bool false] := by kernel_rfl
theorem za_bool : zeroAtoms Try.prog 4 = some [.v (.bool false)] := by kernel_rfl
attribute [go_sem] za_bool sz_bool
theorem ld_bool {m : Mem} {cs : List Value} {K : AV → Prop} : onR (loadS Try.prog 4 m (.at (.pi cs))) K = (0 < cs.length ∧ evK (todo (cs.getD 0 undef)) fun u => K (.at (.v u))) := load_pi1 agg_bool
theorem lp_bool {κ ver sz j off : Nat} {m : Mem} {K : AV → Prop} : loadK Try.prog 4 m (.at (.pa κ ver sz j off)) K = (off < sz ∧ rowAt (todo (m κ)) ver sz j fun r => evK (todo (r.getD off undef)) fun u => K (.at (.v u))) := loadK_paA agg_bool sz_bool
attribute [go_sem] ld_bool lp_bool
theorem lb_bool {m : Mem} {κ ver off : Nat} {K : AV → Prop} : onR (loadS Try.prog 4 m (.at (.bx κ ver off))) K = boxAt (todo (m κ)) ver fun cells => onO (todo cells[off]?) fun a => K (.at a) := load_bxK1 agg_bool
theorem sb_bool {m : Mem} {κ ver off : Nat} {X : AV} {K : Mem → Prop} : onR (storeS Try.prog 4 m (.at (.bx κ ver off)) X) K = boxAt (todo (m κ)) ver fun cells => onO (todo (atomsOf X)) fun new => new.length = 1 ∧ off + 1 ≤ cells.length ∧ evK (todo (splice cells off new)) fun cs => K (upd m κ (.box ver cs)) := store_bxK sz_bool
theorem sp_bool {m : Mem} {κ ver sz j off : Nat} {X : AV} {K : Mem → Prop} : onR (storeS Try.prog 4 m (.at (.pa κ ver sz j off)) X) K = arrAt (todo (m κ)) ver sz fun rows => onO (todo ((atomsOf X).bind valsOf)) fun us => us.length = 1 ∧ (j < rows.length ∧ off + 1 ≤ sz) ∧ evK (todo (rows.set j (splice (rows.getD j []) off us))) fun rs => K (upd m κ (.arr ver sz rs)) := store_paK sz_bool
attribute [go_sem] lb_bool sb_bool sp_bool
theorem und_bool : Try.prog.underlying 4 = some .bool := Try.underlying4
theorem beql {p q : Bool} {K : Value → Prop} : onR (binS Try.prog .eql 4 (.at (.v (.bool p))) (.at (.v (.bool q)))) K = K (.bool (p == q)) := bin_beql und_bool
theorem bneq {p q : Bool} {K : Value → Prop} : onR (binS Try.prog .neq 4 (.at (.v (.bool p))) (.at (.v (.bool q)))) K = K (.bool (!(p == q))) := bin_bneq und_bool
attribute [go_sem] beql bneq
theorem agg_string : aggT Try.prog 9 = some false := by kernel_rfl
theorem sz_string : szT Try.prog 9 = some 1 := by kernel_rfl
theorem by_string : (Try.prog.info? 9).map (·.bytes) = some 16 := by kernel_rfl
theorem zv_string : zeroVals Try.prog 9 = some [.string ByteArray.empty] := by kernel_rfl
theorem za_string : zeroAtoms Try.prog 9 = some [.v (.string ByteArray.empty)] := by kernel_rfl
attribute [go_sem] za_string sz_string
theorem ld_string {m : Mem} {cs : List Value} {K : AV → Prop} : onR (loadS Try.prog 9 m (.at (.pi cs))) K = (0 < cs.length ∧ evK (todo (cs.getD 0 undef)) fun u => K (.at (.v u))) := load_pi1 agg_string
theorem lp_string {κ ver sz j off : Nat} {m : Mem} {K : AV → Prop} : loadK Try.prog 9 m (.at (.pa κ ver sz j off)) K = (off < sz ∧ rowAt (todo (m κ)) ver sz j fun r => evK (todo (r.getD off undef)) fun u => K (.at (.v u))) := loadK_paA agg_string sz_string
attribute [go_sem] ld_string lp_string
theorem lb_string {m : Mem} {κ ver off : Nat} {K : AV → Prop} : onR (loadS Try.prog 9 m (.at (.bx κ ver off))) K = boxAt (todo (m κ)) ver fun cells => onO (todo cells[off]?) fun a => K (.at a) := load_bxK1 agg_string
theorem sb_string {m : Mem} {κ ver off : Nat} {X : AV} {K : Mem → Prop} : onR (storeS Try.prog 9 m (.at (.bx κ ver off)) X) K = boxAt (todo (m κ)) ver fun cells => onO (todo (atomsOf X)) fun new => new.length = 1 ∧ off + 1 ≤ cells.length ∧ evK (todo (splice cells off new)) fun cs => K (upd m κ (.box ver cs)) := store_bxK sz_string
theorem sp_string {m : Mem} {κ ver sz j off : Nat} {X : AV} {K : Mem → Prop} : onR (storeS Try.prog 9 m (.at (.pa κ ver sz j off)) X) K = arrAt (todo (m κ)) ver sz fun rows => onO (todo ((atomsOf X).bind valsOf)) fun us => us.length = 1 ∧ (j < rows.length ∧ off + 1 ≤ sz) ∧ evK (todo (rows.set j (splice (rows.getD j []) off us))) fun rs => K (upd m κ (.arr ver sz rs)) := store_paK sz_string
attribute [go_sem] lb_string sb_string sp_string
theorem und_intS : Try.prog.underlying 43 = some (.slice 3) := Try.underlying43
theorem agg_intS : aggT Try.prog 43 = some false := by kernel_rfl
theorem sz_intS : szT Try.prog 43 = some 1 := by kernel_rfl
theorem ix_intS {rows : List (List Value)} {k : IntKind} {i : Int} {K : AV → Prop} : onR (indexAddrS Try.prog 43 (.at (.im 1 rows)) (.at (.v (.int k i)))) K = ((0 ≤ i ∧ i < (rows.length : Int)) ∧ ∀ r, rows[i.toNat]? = some r → K (.at (.pi r))) := idx_im und_intS sz_int
theorem io_intS {κ ver n : Nat} {k : IntKind} {i : Int} {K : AV → Prop} : onR (indexAddrS Try.prog 43 (.at (.ow κ ver 1 n)) (.at (.v (.int k i)))) K = ((0 ≤ i ∧ i < (n : Int)) ∧ evK (todo i.toNat) fun j => K (.at (.pa κ ver 1 j 0))) := idx_ow und_intS sz_int
theorem ln_intS {sz : Nat} {rows : List (List Value)} {K : Value → Prop} : onO (lenS Try.prog 43 (.at (.im sz rows))) K = K (.int .i64 rows.length) := len_im und_intS
theorem lo_intS {κ ver sz n : Nat} {K : Value → Prop} : onO (lenS Try.prog 43 (.at (.ow κ ver sz n))) K = K (.int .i64 n) := len_ow und_intS
theorem lz_intS {K : Value → Prop} : onO (lenS Try.prog 43 (.at .nil)) K = K (.int .i64 0) := len_nil und_intS
theorem si_intS : siOf Try.prog 43 = some ⟨3, 1, 8, [.int .i64 0]⟩ := by kernel_rfl
theorem ci_intS {nx : Nat} {q : Bool} {t : Nat → AV} {m : Mem} {rows : List (List Value)} {lo hi : Option Operand} {K : AV → Mem → Prop} : onM (sliceS Try.prog nx q 43 ⟨t, m⟩ (.at (.im 1 rows)) lo hi none) K = onO (todo (boundS ⟨t, m⟩ lo 0)) fun l => onO (todo (boundS ⟨t, m⟩ hi rows.length)) fun h => (0 ≤ l ∧ l ≤ h ∧ h ≤ (rows.length : Int)) ∧ evK (todo ((rows.drop l.toNat).take (h.toNat - l.toNat))) fun rs => K (.at (.im 1 rs)) m := cut_im_k und_intS sz_int
theorem cn_intS {nx : Nat} {q : Bool} {t : Nat → AV} {m : Mem} {lo hi : Option Operand} {K : AV → Mem → Prop} : onM (sliceS Try.prog nx q 43 ⟨t, m⟩ (.at .nil) lo hi none) K = onO (todo (boundS ⟨t, m⟩ lo 0)) fun l => onO (todo (boundS ⟨t, m⟩ hi 0)) fun h => (l = 0 ∧ h = 0) ∧ K (.at .nil) m := cut_nil_k und_intS sz_int
attribute [go_sem] ix_intS io_intS ln_intS lo_intS lz_intS si_intS ci_intS cn_intS
attribute [go_sem] sz_intS
theorem lb_intS {m : Mem} {κ ver off : Nat} {K : AV → Prop} : onR (loadS Try.prog 43 m (.at (.bx κ ver off))) K = boxAt (todo (m κ)) ver fun cells => onO (todo cells[off]?) fun a => K (.at a) := load_bxK1 agg_intS
theorem sb_intS {m : Mem} {κ ver off : Nat} {X : AV} {K : Mem → Prop} : onR (storeS Try.prog 43 m (.at (.bx κ ver off)) X) K = boxAt (todo (m κ)) ver fun cells => onO (todo (atomsOf X)) fun new => new.length = 1 ∧ off + 1 ≤ cells.length ∧ evK (todo (splice cells off new)) fun cs => K (upd m κ (.box ver cs)) := store_bxK sz_intS
theorem sp_intS {m : Mem} {κ ver sz j off : Nat} {X : AV} {K : Mem → Prop} : onR (storeS Try.prog 43 m (.at (.pa κ ver sz j off)) X) K = arrAt (todo (m κ)) ver sz fun rows => onO (todo ((atomsOf X).bind valsOf)) fun us => us.length = 1 ∧ (j < rows.length ∧ off + 1 ≤ sz) ∧ evK (todo (rows.set j (splice (rows.getD j []) off us))) fun rs => K (upd m κ (.arr ver sz rs)) := store_paK sz_intS
attribute [go_sem] lb_intS sb_intS sp_intS
theorem und_boolS : Try.prog.underlying 24 = some (.slice 4) := Try.underlying24
theorem agg_boolS : aggT Try.prog 24 = some false := by kernel_rfl
theorem sz_boolS : szT Try.prog 24 = some 1 := by kernel_rfl
theorem ix_boolS {rows : List (List Value)} {k : IntKind} {i : Int} {K : AV → Prop} : onR (indexAddrS Try.prog 24 (.at (.im 1 rows)) (.at (.v (.int k i)))) K = ((0 ≤ i ∧ i < (rows.length : Int)) ∧ ∀ r, rows[i.toNat]? = some r → K (.at (.pi r))) := idx_im und_boolS sz_bool
theorem io_boolS {κ ver n : Nat} {k : IntKind} {i : Int} {K : AV → Prop} : onR (indexAddrS Try.prog 24 (.at (.ow κ ver 1 n)) (.at (.v (.int k i)))) K = ((0 ≤ i ∧ i < (n : Int)) ∧ evK (todo i.toNat) fun j => K (.at (.pa κ ver 1 j 0))) := idx_ow und_boolS sz_bool
theorem ln_boolS {sz : Nat} {rows : List (List Value)} {K : Value → Prop} : onO (lenS Try.prog 24 (.at (.im sz rows))) K = K (.int .i64 rows.length) := len_im und_boolS
theorem lo_boolS {κ ver sz n : Nat} {K : Value → Prop} : onO (lenS Try.prog 24 (.at (.ow κ ver sz n))) K = K (.int .i64 n) := len_ow und_boolS
theorem lz_boolS {K : Value → Prop} : onO (lenS Try.prog 24 (.at .nil)) K = K (.int .i64 0) := len_nil und_boolS
theorem si_boolS : siOf Try.prog 24 = some ⟨4, 1, 1, [.bool false]⟩ := by kernel_rfl
theorem ci_boolS {nx : Nat} {q : Bool} {t : Nat → AV} {m : Mem} {rows : List (List Value)} {lo hi : Option Operand} {K : AV → Mem → Prop} : onM (sliceS Try.prog nx q 24 ⟨t, m⟩ (.at (.im 1 rows)) lo hi none) K = onO (todo (boundS ⟨t, m⟩ lo 0)) fun l => onO (todo (boundS ⟨t, m⟩ hi rows.length)) fun h => (0 ≤ l ∧ l ≤ h ∧ h ≤ (rows.length : Int)) ∧ evK (todo ((rows.drop l.toNat).take (h.toNat - l.toNat))) fun rs => K (.at (.im 1 rs)) m := cut_im_k und_boolS sz_bool
theorem cn_boolS {nx : Nat} {q : Bool} {t : Nat → AV} {m : Mem} {lo hi : Option Operand} {K : AV → Mem → Prop} : onM (sliceS Try.prog nx q 24 ⟨t, m⟩ (.at .nil) lo hi none) K = onO (todo (boundS ⟨t, m⟩ lo 0)) fun l => onO (todo (boundS ⟨t, m⟩ hi 0)) fun h => (l = 0 ∧ h = 0) ∧ K (.at .nil) m := cut_nil_k und_boolS sz_bool
attribute [go_sem] ix_boolS io_boolS ln_boolS lo_boolS lz_boolS si_boolS ci_boolS cn_boolS
attribute [go_sem] sz_boolS
theorem lb_boolS {m : Mem} {κ ver off : Nat} {K : AV → Prop} : onR (loadS Try.prog 24 m (.at (.bx κ ver off))) K = boxAt (todo (m κ)) ver fun cells => onO (todo cells[off]?) fun a => K (.at a) := load_bxK1 agg_boolS
theorem sb_boolS {m : Mem} {κ ver off : Nat} {X : AV} {K : Mem → Prop} : onR (storeS Try.prog 24 m (.at (.bx κ ver off)) X) K = boxAt (todo (m κ)) ver fun cells => onO (todo (atomsOf X)) fun new => new.length = 1 ∧ off + 1 ≤ cells.length ∧ evK (todo (splice cells off new)) fun cs => K (upd m κ (.box ver cs)) := store_bxK sz_boolS
theorem sp_boolS {m : Mem} {κ ver sz j off : Nat} {X : AV} {K : Mem → Prop} : onR (storeS Try.prog 24 m (.at (.pa κ ver sz j off)) X) K = arrAt (todo (m κ)) ver sz fun rows => onO (todo ((atomsOf X).bind valsOf)) fun us => us.length = 1 ∧ (j < rows.length ∧ off + 1 ≤ sz) ∧ evK (todo (rows.set j (splice (rows.getD j []) off us))) fun rs => K (upd m κ (.arr ver sz rs)) := store_paK sz_boolS
attribute [go_sem] lb_boolS sb_boolS sp_boolS
theorem und_stringS : Try.prog.underlying 67 = some (.slice 9) := Try.underlying67
theorem agg_stringS : aggT Try.prog 67 = some false := by kernel_rfl
theorem sz_stringS : szT Try.prog 67 = some 1 := by kernel_rfl
theorem ix_stringS {rows : List (List Value)} {k : IntKind} {i : Int} {K : AV → Prop} : onR (indexAddrS Try.prog 67 (.at (.im 1 rows)) (.at (.v (.int k i)))) K = ((0 ≤ i ∧ i < (rows.length : Int)) ∧ ∀ r, rows[i.toNat]? = some r → K (.at (.pi r))) := idx_im und_stringS sz_string
theorem io_stringS {κ ver n : Nat} {k : IntKind} {i : Int} {K : AV → Prop} : onR (indexAddrS Try.prog 67 (.at (.ow κ ver 1 n)) (.at (.v (.int k i)))) K = ((0 ≤ i ∧ i < (n : Int)) ∧ evK (todo i.toNat) fun j => K (.at (.pa κ ver 1 j 0))) := idx_ow und_stringS sz_string
theorem ln_stringS {sz : Nat} {rows : List (List Value)} {K : Value → Prop} : onO (lenS Try.prog 67 (.at (.im sz rows))) K = K (.int .i64 rows.length) := len_im und_stringS
theorem lo_stringS {κ ver sz n : Nat} {K : Value → Prop} : onO (lenS Try.prog 67 (.at (.ow κ ver sz n))) K = K (.int .i64 n) := len_ow und_stringS
theorem lz_stringS {K : Value → Prop} : onO (lenS Try.prog 67 (.at .nil)) K = K (.int .i64 0) := len_nil und_stringS
theorem si_stringS : siOf Try.prog 67 = some ⟨9, 1, 16, [.string ByteArray.empty]⟩ := by kernel_rfl
theorem ci_stringS {nx : Nat} {q : Bool} {t : Nat → AV} {m : Mem} {rows : List (List Value)} {lo hi : Option Operand} {K : AV → Mem → Prop} : onM (sliceS Try.prog nx q 67 ⟨t, m⟩ (.at (.im 1 rows)) lo hi none) K = onO (todo (boundS ⟨t, m⟩ lo 0)) fun l => onO (todo (boundS ⟨t, m⟩ hi rows.length)) fun h => (0 ≤ l ∧ l ≤ h ∧ h ≤ (rows.length : Int)) ∧ evK (todo ((rows.drop l.toNat).take (h.toNat - l.toNat))) fun rs => K (.at (.im 1 rs)) m := cut_im_k und_stringS sz_string
theorem cn_stringS {nx : Nat} {q : Bool} {t : Nat → AV} {m : Mem} {lo hi : Option Operand} {K : AV → Mem → Prop} : onM (sliceS Try.prog nx q 67 ⟨t, m⟩ (.at .nil) lo hi none) K = onO (todo (boundS ⟨t, m⟩ lo 0)) fun l => onO (todo (boundS ⟨t, m⟩ hi 0)) fun h => (l = 0 ∧ h = 0) ∧ K (.at .nil) m := cut_nil_k und_stringS sz_string
attribute [go_sem] ix_stringS io_stringS ln_stringS lo_stringS lz_stringS si_stringS ci_stringS cn_stringS
attribute [go_sem] sz_stringS
theorem lb_stringS {m : Mem} {κ ver off : Nat} {K : AV → Prop} : onR (loadS Try.prog 67 m (.at (.bx κ ver off))) K = boxAt (todo (m κ)) ver fun cells => onO (todo cells[off]?) fun a => K (.at a) := load_bxK1 agg_stringS
theorem sb_stringS {m : Mem} {κ ver off : Nat} {X : AV} {K : Mem → Prop} : onR (storeS Try.prog 67 m (.at (.bx κ ver off)) X) K = boxAt (todo (m κ)) ver fun cells => onO (todo (atomsOf X)) fun new => new.length = 1 ∧ off + 1 ≤ cells.length ∧ evK (todo (splice cells off new)) fun cs => K (upd m κ (.box ver cs)) := store_bxK sz_stringS
theorem sp_stringS {m : Mem} {κ ver sz j off : Nat} {X : AV} {K : Mem → Prop} : onR (storeS Try.prog 67 m (.at (.pa κ ver sz j off)) X) K = arrAt (todo (m κ)) ver sz fun rows => onO (todo ((atomsOf X).bind valsOf)) fun us => us.length = 1 ∧ (j < rows.length ∧ off + 1 ≤ sz) ∧ evK (todo (rows.set j (splice (rows.getD j []) off us))) fun rs => K (upd m κ (.arr ver sz rs)) := store_paK sz_stringS
attribute [go_sem] lb_stringS sb_stringS sp_stringS
theorem agg_implPage : aggT Try.prog 74 = some true := by kernel_rfl
theorem sz_implPage : szT Try.prog 74 = some 4 := by kernel_rfl
theorem by_implPage : (Try.prog.info? 74).map (·.bytes) = some 32 := by kernel_rfl
theorem zv_implPage : zeroVals Try.prog 74 = some [.int .i64 0, .int .i64 0, .int .i64 0, .int .i64 0] := by kernel_rfl
theorem za_implPage : zeroAtoms Try.prog 74 = some [.v (.int .i64 0), .v (.int .i64 0), .v (.int .i64 0), .v (.int .i64 0)] := by kernel_rfl
attribute [go_sem] za_implPage sz_implPage
theorem ld_implPage {m : Mem} {cs : List Value} {K : AV → Prop} : onR (loadS Try.prog 74 m (.at (.pi cs))) K = (4 ≤ cs.length ∧ evK (todo ((cs.take 4).map A.v)) fun cs => K (.ag cs)) := load_piN agg_implPage sz_implPage
theorem ti_implPage : tiOf Try.prog 74 = some ⟨[⟨ "Day", 3, 0, false, "", "", 0⟩, ⟨ "Cell", 3, 1, false, "", "", 8⟩, ⟨ "Food", 3, 2, false, "", "", 16⟩, ⟨ "Seal", 3, 3, false, "", "", 24⟩], [.v (.int .i64 0), .v (.int .i64 0), .v (.int .i64 0), .v (.int .i64 0)]⟩ := by kernel_rfl
theorem lp_implPage {κ ver sz j off : Nat} {m : Mem} {K : AV → Prop} : loadK Try.prog 74 m (.at (.pa κ ver sz j off)) K = (off + 4 ≤ sz ∧ rowAt (todo (m κ)) ver sz j fun r => evK (todo (((r.drop off).take 4).map A.v)) fun cs => K (.ag cs)) := loadK_paB agg_implPage sz_implPage
attribute [go_sem] ld_implPage ti_implPage lp_implPage
theorem fp_implPage_0 {cs : List Value} {K : AV → Prop} : onO (fieldAddrS Try.prog 74 0 (.at (.pi cs))) K = evK (todo (cs.drop 0)) (fun c => K (.at (.pi c))) := fa_pi (fd := ⟨ "Day", 3, 0, false, "", "", 0⟩) Try.underlying74 rfl sz_int
theorem fo_implPage_0 {κ ver sz i off : Nat} {K : AV → Prop} : onO (fieldAddrS Try.prog 74 0 (.at (.pa κ ver sz i off))) K = evK (todo (off + 0)) (fun o => K (.at (.pa κ ver sz i o))) := fa_pa (fd := ⟨ "Day", 3, 0, false, "", "", 0⟩) Try.underlying74 rfl sz_int
theorem fb_implPage_0 {κ ver off : Nat} {K : AV → Prop} : onO (fieldAddrS Try.prog 74 0 (.at (.bx κ ver off))) K = evK (todo (off + 0)) (fun o => K (.at (.bx κ ver o))) := fa_bx (fd := ⟨ "Day", 3, 0, false, "", "", 0⟩) Try.underlying74 rfl sz_int
theorem fg_implPage_0 {cs : List A} {K : AV → Prop} : onR (fieldS Try.prog 74 0 (.ag cs)) K = onO (todo cs[0]?) fun a => K (.at a) := field_1K (fd := ⟨ "Day", 3, 0, false, "", "", 0⟩) Try.underlying74 rfl agg_int
attribute [go_sem] fp_implPage_0 fo_implPage_0 fb_implPage_0 fg_implPage_0
theorem fp_implPage_1 {cs : List Value} {K : AV → Prop} : onO (fieldAddrS Try.prog 74 1 (.at (.pi cs))) K = evK (todo (cs.drop 1)) (fun c => K (.at (.pi c))) := fa_pi (fd := ⟨ "Cell", 3, 1, false, "", "", 8⟩) Try.underlying74 rfl sz_int
theorem fo_implPage_1 {κ ver sz i off : Nat} {K : AV → Prop} : onO (fieldAddrS Try.prog 74 1 (.at (.pa κ ver sz i off))) K = evK (todo (off + 1)) (fun o => K (.at (.pa κ ver sz i o))) := fa_pa (fd := ⟨ "Cell", 3, 1, false, "", "", 8⟩) Try.underlying74 rfl sz_int
theorem fb_implPage_1 {κ ver off : Nat} {K : AV → Prop} : onO (fieldAddrS Try.prog 74 1 (.at (.bx κ ver off))) K = evK (todo (off + 1)) (fun o => K (.at (.bx κ ver o))) := fa_bx (fd := ⟨ "Cell", 3, 1, false, "", "", 8⟩) Try.underlying74 rfl sz_int
theorem fg_implPage_1 {cs : List A} {K : AV → Prop} : onR (fieldS Try.prog 74 1 (.ag cs)) K = onO (todo cs[1]?) fun a => K (.at a) := field_1K (fd := ⟨ "Cell", 3, 1, false, "", "", 8⟩) Try.underlying74 rfl agg_int
attribute [go_sem] fp_implPage_1 fo_implPage_1 fb_implPage_1 fg_implPage_1
theorem fp_implPage_2 {cs : List Value} {K : AV → Prop} : onO (fieldAddrS Try.prog 74 2 (.at (.pi cs))) K = evK (todo (cs.drop 2)) (fun c => K (.at (.pi c))) := fa_pi (fd := ⟨ "Food", 3, 2, false, "", "", 16⟩) Try.underlying74 rfl sz_int
theorem fo_implPage_2 {κ ver sz i off : Nat} {K : AV → Prop} : onO (fieldAddrS Try.prog 74 2 (.at (.pa κ ver sz i off))) K = evK (todo (off + 2)) (fun o => K (.at (.pa κ ver sz i o))) := fa_pa (fd := ⟨ "Food", 3, 2, false, "", "", 16⟩) Try.underlying74 rfl sz_int
theorem fb_implPage_2 {κ ver off : Nat} {K : AV → Prop} : onO (fieldAddrS Try.prog 74 2 (.at (.bx κ ver off))) K = evK (todo (off + 2)) (fun o => K (.at (.bx κ ver o))) := fa_bx (fd := ⟨ "Food", 3, 2, false, "", "", 16⟩) Try.underlying74 rfl sz_int
theorem fg_implPage_2 {cs : List A} {K : AV → Prop} : onR (fieldS Try.prog 74 2 (.ag cs)) K = onO (todo cs[2]?) fun a => K (.at a) := field_1K (fd := ⟨ "Food", 3, 2, false, "", "", 16⟩) Try.underlying74 rfl agg_int
attribute [go_sem] fp_implPage_2 fo_implPage_2 fb_implPage_2 fg_implPage_2
theorem fp_implPage_3 {cs : List Value} {K : AV → Prop} : onO (fieldAddrS Try.prog 74 3 (.at (.pi cs))) K = evK (todo (cs.drop 3)) (fun c => K (.at (.pi c))) := fa_pi (fd := ⟨ "Seal", 3, 3, false, "", "", 24⟩) Try.underlying74 rfl sz_int
theorem fo_implPage_3 {κ ver sz i off : Nat} {K : AV → Prop} : onO (fieldAddrS Try.prog 74 3 (.at (.pa κ ver sz i off))) K = evK (todo (off + 3)) (fun o => K (.at (.pa κ ver sz i o))) := fa_pa (fd := ⟨ "Seal", 3, 3, false, "", "", 24⟩) Try.underlying74 rfl sz_int
theorem fb_implPage_3 {κ ver off : Nat} {K : AV → Prop} : onO (fieldAddrS Try.prog 74 3 (.at (.bx κ ver off))) K = evK (todo (off + 3)) (fun o => K (.at (.bx κ ver o))) := fa_bx (fd := ⟨ "Seal", 3, 3, false, "", "", 24⟩) Try.underlying74 rfl sz_int
theorem fg_implPage_3 {cs : List A} {K : AV → Prop} : onR (fieldS Try.prog 74 3 (.ag cs)) K = onO (todo cs[3]?) fun a => K (.at a) := field_1K (fd := ⟨ "Seal", 3, 3, false, "", "", 24⟩) Try.underlying74 rfl agg_int
attribute [go_sem] fp_implPage_3 fo_implPage_3 fb_implPage_3 fg_implPage_3
theorem lb_implPage {m : Mem} {κ ver off : Nat} {K : AV → Prop} : onR (loadS Try.prog 74 m (.at (.bx κ ver off))) K = boxAt (todo (m κ)) ver fun cells => off + 4 ≤ cells.length ∧ evK (todo ((cells.drop off).take 4)) fun cs => K (.ag cs) := load_bxKN agg_implPage sz_implPage
theorem sb_implPage {m : Mem} {κ ver off : Nat} {X : AV} {K : Mem → Prop} : onR (storeS Try.prog 74 m (.at (.bx κ ver off)) X) K = boxAt (todo (m κ)) ver fun cells => onO (todo (atomsOf X)) fun new => new.length = 4 ∧ off + 4 ≤ cells.length ∧ evK (todo (splice cells off new)) fun cs => K (upd m κ (.box ver cs)) := store_bxK sz_implPage
theorem sp_implPage {m : Mem} {κ ver sz j off : Nat} {X : AV} {K : Mem → Prop} : onR (storeS Try.prog 74 m (.at (.pa κ ver sz j off)) X) K = arrAt (todo (m κ)) ver sz fun rows => onO (todo ((atomsOf X).bind valsOf)) fun us => us.length = 4 ∧ (j < rows.length ∧ off + 4 ≤ sz) ∧ evK (todo (rows.set j (splice (rows.getD j []) off us))) fun rs => K (upd m κ (.arr ver sz rs)) := store_paK sz_implPage
attribute [go_sem] lb_implPage sb_implPage sp_implPage
theorem und_implPageS : Try.prog.underlying 39 = some (.slice 74) := Try.underlying39
theorem agg_implPageS : aggT Try.prog 39 = some false := by kernel_rfl
theorem sz_implPageS : szT Try.prog 39 = some 1 := by kernel_rfl
theorem ix_implPageS {rows : List (List Value)} {k : IntKind} {i : Int} {K : AV → Prop} : onR (indexAddrS Try.prog 39 (.at (.im 4 rows)) (.at (.v (.int k i)))) K = ((0 ≤ i ∧ i < (rows.length : Int)) ∧ ∀ r, rows[i.toNat]? = some r → K (.at (.pi r))) := idx_im und_implPageS sz_implPage
theorem io_implPageS {κ ver n : Nat} {k : IntKind} {i : Int} {K : AV → Prop} : onR (indexAddrS Try.prog 39 (.at (.ow κ ver 4 n)) (.at (.v (.int k i)))) K = ((0 ≤ i ∧ i < (n : Int)) ∧ evK (todo i.toNat) fun j => K (.at (.pa κ ver 4 j 0))) := idx_ow und_implPageS sz_implPage
theorem ln_implPageS {sz : Nat} {rows : List (List Value)} {K : Value → Prop} : onO (lenS Try.prog 39 (.at (.im sz rows))) K = K (.int .i64 rows.length) := len_im und_implPageS
theorem lo_implPageS {κ ver sz n : Nat} {K : Value → Prop} : onO (lenS Try.prog 39 (.at (.ow κ ver sz n))) K = K (.int .i64 n) := len_ow und_implPageS
theorem lz_implPageS {K : Value → Prop} : onO (lenS Try.prog 39 (.at .nil)) K = K (.int .i64 0) := len_nil und_implPageS
theorem si_implPageS : siOf Try.prog 39 = some ⟨74, 4, 32, [.int .i64 0, .int .i64 0, .int .i64 0, .int .i64 0]⟩ := by kernel_rfl
theorem ci_implPageS {nx : Nat} {q : Bool} {t : Nat → AV} {m : Mem} {rows : List (List Value)} {lo hi : Option Operand} {K : AV → Mem → Prop} : onM (sliceS Try.prog nx q 39 ⟨t, m⟩ (.at (.im 4 rows)) lo hi none) K = onO (todo (boundS ⟨t, m⟩ lo 0)) fun l => onO (todo (boundS ⟨t, m⟩ hi rows.length)) fun h => (0 ≤ l ∧ l ≤ h ∧ h ≤ (rows.length : Int)) ∧ evK (todo ((rows.drop l.toNat).take (h.toNat - l.toNat))) fun rs => K (.at (.im 4 rs)) m := cut_im_k und_implPageS sz_implPage
theorem cn_implPageS {nx : Nat} {q : Bool} {t : Nat → AV} {m : Mem} {lo hi : Option Operand} {K : AV → Mem → Prop} : onM (sliceS Try.prog nx q 39 ⟨t, m⟩ (.at .nil) lo hi none) K = onO (todo (boundS ⟨t, m⟩ lo 0)) fun l => onO (todo (boundS ⟨t, m⟩ hi 0)) fun h => (l = 0 ∧ h = 0) ∧ K (.at .nil) m := cut_nil_k und_implPageS sz_implPage
attribute [go_sem] ix_implPageS io_implPageS ln_implPageS lo_implPageS lz_implPageS si_implPageS ci_implPageS cn_implPageS
attribute [go_sem] sz_implPageS
theorem lb_implPageS {m : Mem} {κ ver off : Nat} {K : AV → Prop} : onR (loadS Try.prog 39 m (.at (.bx κ ver off))) K = boxAt (todo (m κ)) ver fun cells => onO (todo cells[off]?) fun a => K (.at a) := load_bxK1 agg_implPageS
theorem sb_implPageS {m : Mem} {κ ver off : Nat} {X : AV} {K : Mem → Prop} : onR (storeS Try.prog 39 m (.at (.bx κ ver off)) X) K = boxAt (todo (m κ)) ver fun cells => onO (todo (atomsOf X)) fun new => new.length = 1 ∧ off + 1 ≤ cells.length ∧ evK (todo (splice cells off new)) fun cs => K (upd m κ (.box ver cs)) := store_bxK sz_implPageS
theorem sp_implPageS {m : Mem} {κ ver sz j off : Nat} {X : AV} {K : Mem → Prop} : onR (storeS Try.prog 39 m (.at (.pa κ ver sz j off)) X) K = arrAt (todo (m κ)) ver sz fun rows => onO (todo ((atomsOf X).bind valsOf)) fun us => us.length = 1 ∧ (j < rows.length ∧ off + 1 ≤ sz) ∧ evK (todo (rows.set j (splice (rows.getD j []) off us))) fun rs => K (upd m κ (.arr ver sz rs)) := store_paK sz_implPageS
attribute [go_sem] lb_implPageS sb_implPageS sp_implPageS
theorem agg_implEvent : aggT Try.prog 69 = some true := by kernel_rfl
theorem sz_implEvent : szT Try.prog 69 = some 3 := by kernel_rfl
theorem by_implEvent : (Try.prog.info? 69).map (·.bytes) = some 24 := by kernel_rfl
theorem zv_implEvent : zeroVals Try.prog 69 = some [.int .i64 0, .int .i64 0, .bool false] := by kernel_rfl
theorem za_implEvent : zeroAtoms Try.prog 69 = some [.v (.int .i64 0), .v (.int .i64 0), .v (.bool false)] := by kernel_rfl
attribute [go_sem] za_implEvent sz_implEvent
theorem ld_implEvent {m : Mem} {cs : List Value} {K : AV → Prop} : onR (loadS Try.prog 69 m (.at (.pi cs))) K = (3 ≤ cs.length ∧ evK (todo ((cs.take 3).map A.v)) fun cs => K (.ag cs)) := load_piN agg_implEvent sz_implEvent
theorem ti_implEvent : tiOf Try.prog 69 = some ⟨[⟨ "Kind", 3, 0, false, "", "", 0⟩, ⟨ "N", 3, 1, false, "", "", 8⟩, ⟨ "Storm", 4, 2, false, "", "", 16⟩], [.v (.int .i64 0), .v (.int .i64 0), .v (.bool false)]⟩ := by kernel_rfl
theorem lp_implEvent {κ ver sz j off : Nat} {m : Mem} {K : AV → Prop} : loadK Try.prog 69 m (.at (.pa κ ver sz j off)) K = (off + 3 ≤ sz ∧ rowAt (todo (m κ)) ver sz j fun r => evK (todo (((r.drop off).take 3).map A.v)) fun cs => K (.ag cs)) := loadK_paB agg_implEvent sz_implEvent
attribute [go_sem] ld_implEvent ti_implEvent lp_implEvent
theorem fp_implEvent_0 {cs : List Value} {K : AV → Prop} : onO (fieldAddrS Try.prog 69 0 (.at (.pi cs))) K = evK (todo (cs.drop 0)) (fun c => K (.at (.pi c))) := fa_pi (fd := ⟨ "Kind", 3, 0, false, "", "", 0⟩) Try.underlying69 rfl sz_int
theorem fo_implEvent_0 {κ ver sz i off : Nat} {K : AV → Prop} : onO (fieldAddrS Try.prog 69 0 (.at (.pa κ ver sz i off))) K = evK (todo (off + 0)) (fun o => K (.at (.pa κ ver sz i o))) := fa_pa (fd := ⟨ "Kind", 3, 0, false, "", "", 0⟩) Try.underlying69 rfl sz_int
theorem fb_implEvent_0 {κ ver off : Nat} {K : AV → Prop} : onO (fieldAddrS Try.prog 69 0 (.at (.bx κ ver off))) K = evK (todo (off + 0)) (fun o => K (.at (.bx κ ver o))) := fa_bx (fd := ⟨ "Kind", 3, 0, false, "", "", 0⟩) Try.underlying69 rfl sz_int
theorem fg_implEvent_0 {cs : List A} {K : AV → Prop} : onR (fieldS Try.prog 69 0 (.ag cs)) K = onO (todo cs[0]?) fun a => K (.at a) := field_1K (fd := ⟨ "Kind", 3, 0, false, "", "", 0⟩) Try.underlying69 rfl agg_int
attribute [go_sem] fp_implEvent_0 fo_implEvent_0 fb_implEvent_0 fg_implEvent_0
theorem fp_implEvent_1 {cs : List Value} {K : AV → Prop} : onO (fieldAddrS Try.prog 69 1 (.at (.pi cs))) K = evK (todo (cs.drop 1)) (fun c => K (.at (.pi c))) := fa_pi (fd := ⟨ "N", 3, 1, false, "", "", 8⟩) Try.underlying69 rfl sz_int
theorem fo_implEvent_1 {κ ver sz i off : Nat} {K : AV → Prop} : onO (fieldAddrS Try.prog 69 1 (.at (.pa κ ver sz i off))) K = evK (todo (off + 1)) (fun o => K (.at (.pa κ ver sz i o))) := fa_pa (fd := ⟨ "N", 3, 1, false, "", "", 8⟩) Try.underlying69 rfl sz_int
theorem fb_implEvent_1 {κ ver off : Nat} {K : AV → Prop} : onO (fieldAddrS Try.prog 69 1 (.at (.bx κ ver off))) K = evK (todo (off + 1)) (fun o => K (.at (.bx κ ver o))) := fa_bx (fd := ⟨ "N", 3, 1, false, "", "", 8⟩) Try.underlying69 rfl sz_int
theorem fg_implEvent_1 {cs : List A} {K : AV → Prop} : onR (fieldS Try.prog 69 1 (.ag cs)) K = onO (todo cs[1]?) fun a => K (.at a) := field_1K (fd := ⟨ "N", 3, 1, false, "", "", 8⟩) Try.underlying69 rfl agg_int
attribute [go_sem] fp_implEvent_1 fo_implEvent_1 fb_implEvent_1 fg_implEvent_1
theorem fp_implEvent_2 {cs : List Value} {K : AV → Prop} : onO (fieldAddrS Try.prog 69 2 (.at (.pi cs))) K = evK (todo (cs.drop 2)) (fun c => K (.at (.pi c))) := fa_pi (fd := ⟨ "Storm", 4, 2, false, "", "", 16⟩) Try.underlying69 rfl sz_bool
theorem fo_implEvent_2 {κ ver sz i off : Nat} {K : AV → Prop} : onO (fieldAddrS Try.prog 69 2 (.at (.pa κ ver sz i off))) K = evK (todo (off + 2)) (fun o => K (.at (.pa κ ver sz i o))) := fa_pa (fd := ⟨ "Storm", 4, 2, false, "", "", 16⟩) Try.underlying69 rfl sz_bool
theorem fb_implEvent_2 {κ ver off : Nat} {K : AV → Prop} : onO (fieldAddrS Try.prog 69 2 (.at (.bx κ ver off))) K = evK (todo (off + 2)) (fun o => K (.at (.bx κ ver o))) := fa_bx (fd := ⟨ "Storm", 4, 2, false, "", "", 16⟩) Try.underlying69 rfl sz_bool
theorem fg_implEvent_2 {cs : List A} {K : AV → Prop} : onR (fieldS Try.prog 69 2 (.ag cs)) K = onO (todo cs[2]?) fun a => K (.at a) := field_1K (fd := ⟨ "Storm", 4, 2, false, "", "", 16⟩) Try.underlying69 rfl agg_bool
attribute [go_sem] fp_implEvent_2 fo_implEvent_2 fb_implEvent_2 fg_implEvent_2
theorem lb_implEvent {m : Mem} {κ ver off : Nat} {K : AV → Prop} : onR (loadS Try.prog 69 m (.at (.bx κ ver off))) K = boxAt (todo (m κ)) ver fun cells => off + 3 ≤ cells.length ∧ evK (todo ((cells.drop off).take 3)) fun cs => K (.ag cs) := load_bxKN agg_implEvent sz_implEvent
theorem sb_implEvent {m : Mem} {κ ver off : Nat} {X : AV} {K : Mem → Prop} : onR (storeS Try.prog 69 m (.at (.bx κ ver off)) X) K = boxAt (todo (m κ)) ver fun cells => onO (todo (atomsOf X)) fun new => new.length = 3 ∧ off + 3 ≤ cells.length ∧ evK (todo (splice cells off new)) fun cs => K (upd m κ (.box ver cs)) := store_bxK sz_implEvent
theorem sp_implEvent {m : Mem} {κ ver sz j off : Nat} {X : AV} {K : Mem → Prop} : onR (storeS Try.prog 69 m (.at (.pa κ ver sz j off)) X) K = arrAt (todo (m κ)) ver sz fun rows => onO (todo ((atomsOf X).bind valsOf)) fun us => us.length = 3 ∧ (j < rows.length ∧ off + 3 ≤ sz) ∧ evK (todo (rows.set j (splice (rows.getD j []) off us))) fun rs => K (upd m κ (.arr ver sz rs)) := store_paK sz_implEvent
attribute [go_sem] lb_implEvent sb_implEvent sp_implEvent
theorem und_implEventS : Try.prog.underlying 32 = some (.slice 69) := Try.underlying32
theorem agg_implEventS : aggT Try.prog 32 = some false := by kernel_rfl
theorem sz_implEventS : szT Try.prog 32 = some 1 := by kernel_rfl
theorem ix_implEventS {rows : List (List Value)} {k : IntKind} {i : Int} {K : AV → Prop} : onR (indexAddrS Try.prog 32 (.at (.im 3 rows)) (.at (.v (.int k i)))) K = ((0 ≤ i ∧ i < (rows.length : Int)) ∧ ∀ r, rows[i.toNat]? = some r → K (.at (.pi r))) := idx_im und_implEventS sz_implEvent
theorem io_implEventS {κ ver n : Nat} {k : IntKind} {i : Int} {K : AV → Prop} : onR (indexAddrS Try.prog 32 (.at (.ow κ ver 3 n)) (.at (.v (.int k i)))) K = ((0 ≤ i ∧ i < (n : Int)) ∧ evK (todo i.toNat) fun j => K (.at (.pa κ ver 3 j 0))) := idx_ow und_implEventS sz_implEvent
theorem ln_implEventS {sz : Nat} {rows : List (List Value)} {K : Value → Prop} : onO (lenS Try.prog 32 (.at (.im sz rows))) K = K (.int .i64 rows.length) := len_im und_implEventS
theorem lo_implEventS {κ ver sz n : Nat} {K : Value → Prop} : onO (lenS Try.prog 32 (.at (.ow κ ver sz n))) K = K (.int .i64 n) := len_ow und_implEventS
theorem lz_implEventS {K : Value → Prop} : onO (lenS Try.prog 32 (.at .nil)) K = K (.int .i64 0) := len_nil und_implEventS
theorem si_implEventS : siOf Try.prog 32 = some ⟨69, 3, 24, [.int .i64 0, .int .i64 0, .bool false]⟩ := by kernel_rfl
theorem ci_implEventS {nx : Nat} {q : Bool} {t : Nat → AV} {m : Mem} {rows : List (List Value)} {lo hi : Option Operand} {K : AV → Mem → Prop} : onM (sliceS Try.prog nx q 32 ⟨t, m⟩ (.at (.im 3 rows)) lo hi none) K = onO (todo (boundS ⟨t, m⟩ lo 0)) fun l => onO (todo (boundS ⟨t, m⟩ hi rows.length)) fun h => (0 ≤ l ∧ l ≤ h ∧ h ≤ (rows.length : Int)) ∧ evK (todo ((rows.drop l.toNat).take (h.toNat - l.toNat))) fun rs => K (.at (.im 3 rs)) m := cut_im_k und_implEventS sz_implEvent
theorem cn_implEventS {nx : Nat} {q : Bool} {t : Nat → AV} {m : Mem} {lo hi : Option Operand} {K : AV → Mem → Prop} : onM (sliceS Try.prog nx q 32 ⟨t, m⟩ (.at .nil) lo hi none) K = onO (todo (boundS ⟨t, m⟩ lo 0)) fun l => onO (todo (boundS ⟨t, m⟩ hi 0)) fun h => (l = 0 ∧ h = 0) ∧ K (.at .nil) m := cut_nil_k und_implEventS sz_implEvent
attribute [go_sem] ix_implEventS io_implEventS ln_implEventS lo_implEventS lz_implEventS si_implEventS ci_implEventS cn_implEventS
attribute [go_sem] sz_implEventS
theorem lb_implEventS {m : Mem} {κ ver off : Nat} {K : AV → Prop} : onR (loadS Try.prog 32 m (.at (.bx κ ver off))) K = boxAt (todo (m κ)) ver fun cells => onO (todo cells[off]?) fun a => K (.at a) := load_bxK1 agg_implEventS
theorem sb_implEventS {m : Mem} {κ ver off : Nat} {X : AV} {K : Mem → Prop} : onR (storeS Try.prog 32 m (.at (.bx κ ver off)) X) K = boxAt (todo (m κ)) ver fun cells => onO (todo (atomsOf X)) fun new => new.length = 1 ∧ off + 1 ≤ cells.length ∧ evK (todo (splice cells off new)) fun cs => K (upd m κ (.box ver cs)) := store_bxK sz_implEventS
theorem sp_implEventS {m : Mem} {κ ver sz j off : Nat} {X : AV} {K : Mem → Prop} : onR (storeS Try.prog 32 m (.at (.pa κ ver sz j off)) X) K = arrAt (todo (m κ)) ver sz fun rows => onO (todo ((atomsOf X).bind valsOf)) fun us => us.length = 1 ∧ (j < rows.length ∧ off + 1 ≤ sz) ∧ evK (todo (rows.set j (splice (rows.getD j []) off us))) fun rs => K (upd m κ (.arr ver sz rs)) := store_paK sz_implEventS
attribute [go_sem] lb_implEventS sb_implEventS sp_implEventS
theorem agg_implLand : aggT Try.prog 48 = some true := by kernel_rfl
theorem sz_implLand : szT Try.prog 48 = some 3 := by kernel_rfl
theorem by_implLand : (Try.prog.info? 48).map (·.bytes) = some 40 := by kernel_rfl
theorem zv_implLand : zeroVals Try.prog 48 = some [.int .i64 0, .int .i64 0, .slice none 0 0] := by kernel_rfl
theorem za_implLand : zeroAtoms Try.prog 48 = some [.v (.int .i64 0), .v (.int .i64 0), .nil] := by kernel_rfl
attribute [go_sem] za_implLand sz_implLand
theorem ld_implLand {m : Mem} {cs : List Value} {K : AV → Prop} : onR (loadS Try.prog 48 m (.at (.pi cs))) K = (3 ≤ cs.length ∧ evK (todo ((cs.take 3).map A.v)) fun cs => K (.ag cs)) := load_piN agg_implLand sz_implLand
theorem ti_implLand : tiOf Try.prog 48 = some ⟨[⟨ "W", 3, 0, false, "", "", 0⟩, ⟨ "H", 3, 1, false, "", "", 8⟩, ⟨ "Cells", 43, 2, false, "", "", 16⟩], [.v (.int .i64 0), .v (.int .i64 0), .nil]⟩ := by kernel_rfl
theorem lp_implLand {κ ver sz j off : Nat} {m : Mem} {K : AV → Prop} : loadK Try.prog 48 m (.at (.pa κ ver sz j off)) K = (off + 3 ≤ sz ∧ rowAt (todo (m κ)) ver sz j fun r => evK (todo (((r.drop off).take 3).map A.v)) fun cs => K (.ag cs)) := loadK_paB agg_implLand sz_implLand
attribute [go_sem] ld_implLand ti_implLand lp_implLand
theorem fp_implLand_0 {cs : List Value} {K : AV → Prop} : onO (fieldAddrS Try.prog 48 0 (.at (.pi cs))) K = evK (todo (cs.drop 0)) (fun c => K (.at (.pi c))) := fa_pi (fd := ⟨ "W", 3, 0, false, "", "", 0⟩) Try.underlying48 rfl sz_int
theorem fo_implLand_0 {κ ver sz i off : Nat} {K : AV → Prop} : onO (fieldAddrS Try.prog 48 0 (.at (.pa κ ver sz i off))) K = evK (todo (off + 0)) (fun o => K (.at (.pa κ ver sz i o))) := fa_pa (fd := ⟨ "W", 3, 0, false, "", "", 0⟩) Try.underlying48 rfl sz_int
theorem fb_implLand_0 {κ ver off : Nat} {K : AV → Prop} : onO (fieldAddrS Try.prog 48 0 (.at (.bx κ ver off))) K = evK (todo (off + 0)) (fun o => K (.at (.bx κ ver o))) := fa_bx (fd := ⟨ "W", 3, 0, false, "", "", 0⟩) Try.underlying48 rfl sz_int
theorem fg_implLand_0 {cs : List A} {K : AV → Prop} : onR (fieldS Try.prog 48 0 (.ag cs)) K = onO (todo cs[0]?) fun a => K (.at a) := field_1K (fd := ⟨ "W", 3, 0, false, "", "", 0⟩) Try.underlying48 rfl agg_int
attribute [go_sem] fp_implLand_0 fo_implLand_0 fb_implLand_0 fg_implLand_0
theorem fp_implLand_1 {cs : List Value} {K : AV → Prop} : onO (fieldAddrS Try.prog 48 1 (.at (.pi cs))) K = evK (todo (cs.drop 1)) (fun c => K (.at (.pi c))) := fa_pi (fd := ⟨ "H", 3, 1, false, "", "", 8⟩) Try.underlying48 rfl sz_int
theorem fo_implLand_1 {κ ver sz i off : Nat} {K : AV → Prop} : onO (fieldAddrS Try.prog 48 1 (.at (.pa κ ver sz i off))) K = evK (todo (off + 1)) (fun o => K (.at (.pa κ ver sz i o))) := fa_pa (fd := ⟨ "H", 3, 1, false, "", "", 8⟩) Try.underlying48 rfl sz_int
theorem fb_implLand_1 {κ ver off : Nat} {K : AV → Prop} : onO (fieldAddrS Try.prog 48 1 (.at (.bx κ ver off))) K = evK (todo (off + 1)) (fun o => K (.at (.bx κ ver o))) := fa_bx (fd := ⟨ "H", 3, 1, false, "", "", 8⟩) Try.underlying48 rfl sz_int
theorem fg_implLand_1 {cs : List A} {K : AV → Prop} : onR (fieldS Try.prog 48 1 (.ag cs)) K = onO (todo cs[1]?) fun a => K (.at a) := field_1K (fd := ⟨ "H", 3, 1, false, "", "", 8⟩) Try.underlying48 rfl agg_int
attribute [go_sem] fp_implLand_1 fo_implLand_1 fb_implLand_1 fg_implLand_1
theorem fp_implLand_2 {cs : List Value} {K : AV → Prop} : onO (fieldAddrS Try.prog 48 2 (.at (.pi cs))) K = evK (todo (cs.drop 2)) (fun c => K (.at (.pi c))) := fa_pi (fd := ⟨ "Cells", 43, 2, false, "", "", 16⟩) Try.underlying48 rfl sz_intS
theorem fo_implLand_2 {κ ver sz i off : Nat} {K : AV → Prop} : onO (fieldAddrS Try.prog 48 2 (.at (.pa κ ver sz i off))) K = evK (todo (off + 2)) (fun o => K (.at (.pa κ ver sz i o))) := fa_pa (fd := ⟨ "Cells", 43, 2, false, "", "", 16⟩) Try.underlying48 rfl sz_intS
theorem fb_implLand_2 {κ ver off : Nat} {K : AV → Prop} : onO (fieldAddrS Try.prog 48 2 (.at (.bx κ ver off))) K = evK (todo (off + 2)) (fun o => K (.at (.bx κ ver o))) := fa_bx (fd := ⟨ "Cells", 43, 2, false, "", "", 16⟩) Try.underlying48 rfl sz_intS
theorem fg_implLand_2 {cs : List A} {K : AV → Prop} : onR (fieldS Try.prog 48 2 (.ag cs)) K = onO (todo cs[2]?) fun a => K (.at a) := field_1K (fd := ⟨ "Cells", 43, 2, false, "", "", 16⟩) Try.underlying48 rfl agg_intS
attribute [go_sem] fp_implLand_2 fo_implLand_2 fb_implLand_2 fg_implLand_2
theorem lb_implLand {m : Mem} {κ ver off : Nat} {K : AV → Prop} : onR (loadS Try.prog 48 m (.at (.bx κ ver off))) K = boxAt (todo (m κ)) ver fun cells => off + 3 ≤ cells.length ∧ evK (todo ((cells.drop off).take 3)) fun cs => K (.ag cs) := load_bxKN agg_implLand sz_implLand
theorem sb_implLand {m : Mem} {κ ver off : Nat} {X : AV} {K : Mem → Prop} : onR (storeS Try.prog 48 m (.at (.bx κ ver off)) X) K = boxAt (todo (m κ)) ver fun cells => onO (todo (atomsOf X)) fun new => new.length = 3 ∧ off + 3 ≤ cells.length ∧ evK (todo (splice cells off new)) fun cs => K (upd m κ (.box ver cs)) := store_bxK sz_implLand
theorem sp_implLand {m : Mem} {κ ver sz j off : Nat} {X : AV} {K : Mem → Prop} : onR (storeS Try.prog 48 m (.at (.pa κ ver sz j off)) X) K = arrAt (todo (m κ)) ver sz fun rows => onO (todo ((atomsOf X).bind valsOf)) fun us => us.length = 3 ∧ (j < rows.length ∧ off + 3 ≤ sz) ∧ evK (todo (rows.set j (splice (rows.getD j []) off us))) fun rs => K (upd m κ (.arr ver sz rs)) := store_paK sz_implLand
attribute [go_sem] lb_implLand sb_implLand sp_implLand
theorem agg_lawsPage : aggT Try.prog 76 = some true := by kernel_rfl
theorem sz_lawsPage : szT Try.prog 76 = some 4 := by kernel_rfl
theorem by_lawsPage : (Try.prog.info? 76).map (·.bytes) = some 32 := by kernel_rfl
theorem zv_lawsPage : zeroVals Try.prog 76 = some [.int .i64 0, .int .i64 0, .int .i64 0, .int .i64 0] := by kernel_rfl
theorem za_lawsPage : zeroAtoms Try.prog 76 = some [.v (.int .i64 0), .v (.int .i64 0), .v (.int .i64 0), .v (.int .i64 0)] := by kernel_rfl
attribute [go_sem] za_lawsPage sz_lawsPage
theorem ld_lawsPage {m : Mem} {cs : List Value} {K : AV → Prop} : onR (loadS Try.prog 76 m (.at (.pi cs))) K = (4 ≤ cs.length ∧ evK (todo ((cs.take 4).map A.v)) fun cs => K (.ag cs)) := load_piN agg_lawsPage sz_lawsPage
theorem ti_lawsPage : tiOf Try.prog 76 = some ⟨[⟨ "Day", 3, 0, false, "", "", 0⟩, ⟨ "Cell", 3, 1, false, "", "", 8⟩, ⟨ "Food", 3, 2, false, "", "", 16⟩, ⟨ "Seal", 3, 3, false, "", "", 24⟩], [.v (.int .i64 0), .v (.int .i64 0), .v (.int .i64 0), .v (.int .i64 0)]⟩ := by kernel_rfl
theorem lp_lawsPage {κ ver sz j off : Nat} {m : Mem} {K : AV → Prop} : loadK Try.prog 76 m (.at (.pa κ ver sz j off)) K = (off + 4 ≤ sz ∧ rowAt (todo (m κ)) ver sz j fun r => evK (todo (((r.drop off).take 4).map A.v)) fun cs => K (.ag cs)) := loadK_paB agg_lawsPage sz_lawsPage
attribute [go_sem] ld_lawsPage ti_lawsPage lp_lawsPage
theorem fp_lawsPage_0 {cs : List Value} {K : AV → Prop} : onO (fieldAddrS Try.prog 76 0 (.at (.pi cs))) K = evK (todo (cs.drop 0)) (fun c => K (.at (.pi c))) := fa_pi (fd := ⟨ "Day", 3, 0, false, "", "", 0⟩) Try.underlying76 rfl sz_int
theorem fo_lawsPage_0 {κ ver sz i off : Nat} {K : AV → Prop} : onO (fieldAddrS Try.prog 76 0 (.at (.pa κ ver sz i off))) K = evK (todo (off + 0)) (fun o => K (.at (.pa κ ver sz i o))) := fa_pa (fd := ⟨ "Day", 3, 0, false, "", "", 0⟩) Try.underlying76 rfl sz_int
theorem fb_lawsPage_0 {κ ver off : Nat} {K : AV → Prop} : onO (fieldAddrS Try.prog 76 0 (.at (.bx κ ver off))) K = evK (todo (off + 0)) (fun o => K (.at (.bx κ ver o))) := fa_bx (fd := ⟨ "Day", 3, 0, false, "", "", 0⟩) Try.underlying76 rfl sz_int
theorem fg_lawsPage_0 {cs : List A} {K : AV → Prop} : onR (fieldS Try.prog 76 0 (.ag cs)) K = onO (todo cs[0]?) fun a => K (.at a) := field_1K (fd := ⟨ "Day", 3, 0, false, "", "", 0⟩) Try.underlying76 rfl agg_int
attribute [go_sem] fp_lawsPage_0 fo_lawsPage_0 fb_lawsPage_0 fg_lawsPage_0
theorem fp_lawsPage_1 {cs : List Value} {K : AV → Prop} : onO (fieldAddrS Try.prog 76 1 (.at (.pi cs))) K = evK (todo (cs.drop 1)) (fun c => K (.at (.pi c))) := fa_pi (fd := ⟨ "Cell", 3, 1, false, "", "", 8⟩) Try.underlying76 rfl sz_int
theorem fo_lawsPage_1 {κ ver sz i off : Nat} {K : AV → Prop} : onO (fieldAddrS Try.prog 76 1 (.at (.pa κ ver sz i off))) K = evK (todo (off + 1)) (fun o => K (.at (.pa κ ver sz i o))) := fa_pa (fd := ⟨ "Cell", 3, 1, false, "", "", 8⟩) Try.underlying76 rfl sz_int
theorem fb_lawsPage_1 {κ ver off : Nat} {K : AV → Prop} : onO (fieldAddrS Try.prog 76 1 (.at (.bx κ ver off))) K = evK (todo (off + 1)) (fun o => K (.at (.bx κ ver o))) := fa_bx (fd := ⟨ "Cell", 3, 1, false, "", "", 8⟩) Try.underlying76 rfl sz_int
theorem fg_lawsPage_1 {cs : List A} {K : AV → Prop} : onR (fieldS Try.prog 76 1 (.ag cs)) K = onO (todo cs[1]?) fun a => K (.at a) := field_1K (fd := ⟨ "Cell", 3, 1, false, "", "", 8⟩) Try.underlying76 rfl agg_int
attribute [go_sem] fp_lawsPage_1 fo_lawsPage_1 fb_lawsPage_1 fg_lawsPage_1
theorem fp_lawsPage_2 {cs : List Value} {K : AV → Prop} : onO (fieldAddrS Try.prog 76 2 (.at (.pi cs))) K = evK (todo (cs.drop 2)) (fun c => K (.at (.pi c))) := fa_pi (fd := ⟨ "Food", 3, 2, false, "", "", 16⟩) Try.underlying76 rfl sz_int
theorem fo_lawsPage_2 {κ ver sz i off : Nat} {K : AV → Prop} : onO (fieldAddrS Try.prog 76 2 (.at (.pa κ ver sz i off))) K = evK (todo (off + 2)) (fun o => K (.at (.pa κ ver sz i o))) := fa_pa (fd := ⟨ "Food", 3, 2, false, "", "", 16⟩) Try.underlying76 rfl sz_int
theorem fb_lawsPage_2 {κ ver off : Nat} {K : AV → Prop} : onO (fieldAddrS Try.prog 76 2 (.at (.bx κ ver off))) K = evK (todo (off + 2)) (fun o => K (.at (.bx κ ver o))) := fa_bx (fd := ⟨ "Food", 3, 2, false, "", "", 16⟩) Try.underlying76 rfl sz_int
theorem fg_lawsPage_2 {cs : List A} {K : AV → Prop} : onR (fieldS Try.prog 76 2 (.ag cs)) K = onO (todo cs[2]?) fun a => K (.at a) := field_1K (fd := ⟨ "Food", 3, 2, false, "", "", 16⟩) Try.underlying76 rfl agg_int
attribute [go_sem] fp_lawsPage_2 fo_lawsPage_2 fb_lawsPage_2 fg_lawsPage_2
theorem fp_lawsPage_3 {cs : List Value} {K : AV → Prop} : onO (fieldAddrS Try.prog 76 3 (.at (.pi cs))) K = evK (todo (cs.drop 3)) (fun c => K (.at (.pi c))) := fa_pi (fd := ⟨ "Seal", 3, 3, false, "", "", 24⟩) Try.underlying76 rfl sz_int
theorem fo_lawsPage_3 {κ ver sz i off : Nat} {K : AV → Prop} : onO (fieldAddrS Try.prog 76 3 (.at (.pa κ ver sz i off))) K = evK (todo (off + 3)) (fun o => K (.at (.pa κ ver sz i o))) := fa_pa (fd := ⟨ "Seal", 3, 3, false, "", "", 24⟩) Try.underlying76 rfl sz_int
theorem fb_lawsPage_3 {κ ver off : Nat} {K : AV → Prop} : onO (fieldAddrS Try.prog 76 3 (.at (.bx κ ver off))) K = evK (todo (off + 3)) (fun o => K (.at (.bx κ ver o))) := fa_bx (fd := ⟨ "Seal", 3, 3, false, "", "", 24⟩) Try.underlying76 rfl sz_int
theorem fg_lawsPage_3 {cs : List A} {K : AV → Prop} : onR (fieldS Try.prog 76 3 (.ag cs)) K = onO (todo cs[3]?) fun a => K (.at a) := field_1K (fd := ⟨ "Seal", 3, 3, false, "", "", 24⟩) Try.underlying76 rfl agg_int
attribute [go_sem] fp_lawsPage_3 fo_lawsPage_3 fb_lawsPage_3 fg_lawsPage_3
theorem lb_lawsPage {m : Mem} {κ ver off : Nat} {K : AV → Prop} : onR (loadS Try.prog 76 m (.at (.bx κ ver off))) K = boxAt (todo (m κ)) ver fun cells => off + 4 ≤ cells.length ∧ evK (todo ((cells.drop off).take 4)) fun cs => K (.ag cs) := load_bxKN agg_lawsPage sz_lawsPage
theorem sb_lawsPage {m : Mem} {κ ver off : Nat} {X : AV} {K : Mem → Prop} : onR (storeS Try.prog 76 m (.at (.bx κ ver off)) X) K = boxAt (todo (m κ)) ver fun cells => onO (todo (atomsOf X)) fun new => new.length = 4 ∧ off + 4 ≤ cells.length ∧ evK (todo (splice cells off new)) fun cs => K (upd m κ (.box ver cs)) := store_bxK sz_lawsPage
theorem sp_lawsPage {m : Mem} {κ ver sz j off : Nat} {X : AV} {K : Mem → Prop} : onR (storeS Try.prog 76 m (.at (.pa κ ver sz j off)) X) K = arrAt (todo (m κ)) ver sz fun rows => onO (todo ((atomsOf X).bind valsOf)) fun us => us.length = 4 ∧ (j < rows.length ∧ off + 4 ≤ sz) ∧ evK (todo (rows.set j (splice (rows.getD j []) off us))) fun rs => K (upd m κ (.arr ver sz rs)) := store_paK sz_lawsPage
attribute [go_sem] lb_lawsPage sb_lawsPage sp_lawsPage
theorem und_lawsPageS : Try.prog.underlying 36 = some (.slice 76) := Try.underlying36
theorem agg_lawsPageS : aggT Try.prog 36 = some false := by kernel_rfl
theorem sz_lawsPageS : szT Try.prog 36 = some 1 := by kernel_rfl
theorem ix_lawsPageS {rows : List (List Value)} {k : IntKind} {i : Int} {K : AV → Prop} : onR (indexAddrS Try.prog 36 (.at (.im 4 rows)) (.at (.v (.int k i)))) K = ((0 ≤ i ∧ i < (rows.length : Int)) ∧ ∀ r, rows[i.toNat]? = some r → K (.at (.pi r))) := idx_im und_lawsPageS sz_lawsPage
theorem io_lawsPageS {κ ver n : Nat} {k : IntKind} {i : Int} {K : AV → Prop} : onR (indexAddrS Try.prog 36 (.at (.ow κ ver 4 n)) (.at (.v (.int k i)))) K = ((0 ≤ i ∧ i < (n : Int)) ∧ evK (todo i.toNat) fun j => K (.at (.pa κ ver 4 j 0))) := idx_ow und_lawsPageS sz_lawsPage
theorem ln_lawsPageS {sz : Nat} {rows : List (List Value)} {K : Value → Prop} : onO (lenS Try.prog 36 (.at (.im sz rows))) K = K (.int .i64 rows.length) := len_im und_lawsPageS
theorem lo_lawsPageS {κ ver sz n : Nat} {K : Value → Prop} : onO (lenS Try.prog 36 (.at (.ow κ ver sz n))) K = K (.int .i64 n) := len_ow und_lawsPageS
theorem lz_lawsPageS {K : Value → Prop} : onO (lenS Try.prog 36 (.at .nil)) K = K (.int .i64 0) := len_nil und_lawsPageS
theorem si_lawsPageS : siOf Try.prog 36 = some ⟨76, 4, 32, [.int .i64 0, .int .i64 0, .int .i64 0, .int .i64 0]⟩ := by kernel_rfl
theorem ci_lawsPageS {nx : Nat} {q : Bool} {t : Nat → AV} {m : Mem} {rows : List (List Value)} {lo hi : Option Operand} {K : AV → Mem → Prop} : onM (sliceS Try.prog nx q 36 ⟨t, m⟩ (.at (.im 4 rows)) lo hi none) K = onO (todo (boundS ⟨t, m⟩ lo 0)) fun l => onO (todo (boundS ⟨t, m⟩ hi rows.length)) fun h => (0 ≤ l ∧ l ≤ h ∧ h ≤ (rows.length : Int)) ∧ evK (todo ((rows.drop l.toNat).take (h.toNat - l.toNat))) fun rs => K (.at (.im 4 rs)) m := cut_im_k und_lawsPageS sz_lawsPage
theorem cn_lawsPageS {nx : Nat} {q : Bool} {t : Nat → AV} {m : Mem} {lo hi : Option Operand} {K : AV → Mem → Prop} : onM (sliceS Try.prog nx q 36 ⟨t, m⟩ (.at .nil) lo hi none) K = onO (todo (boundS ⟨t, m⟩ lo 0)) fun l => onO (todo (boundS ⟨t, m⟩ hi 0)) fun h => (l = 0 ∧ h = 0) ∧ K (.at .nil) m := cut_nil_k und_lawsPageS sz_lawsPage
attribute [go_sem] ix_lawsPageS io_lawsPageS ln_lawsPageS lo_lawsPageS lz_lawsPageS si_lawsPageS ci_lawsPageS cn_lawsPageS
attribute [go_sem] sz_lawsPageS
theorem lb_lawsPageS {m : Mem} {κ ver off : Nat} {K : AV → Prop} : onR (loadS Try.prog 36 m (.at (.bx κ ver off))) K = boxAt (todo (m κ)) ver fun cells => onO (todo cells[off]?) fun a => K (.at a) := load_bxK1 agg_lawsPageS
theorem sb_lawsPageS {m : Mem} {κ ver off : Nat} {X : AV} {K : Mem → Prop} : onR (storeS Try.prog 36 m (.at (.bx κ ver off)) X) K = boxAt (todo (m κ)) ver fun cells => onO (todo (atomsOf X)) fun new => new.length = 1 ∧ off + 1 ≤ cells.length ∧ evK (todo (splice cells off new)) fun cs => K (upd m κ (.box ver cs)) := store_bxK sz_lawsPageS
theorem sp_lawsPageS {m : Mem} {κ ver sz j off : Nat} {X : AV} {K : Mem → Prop} : onR (storeS Try.prog 36 m (.at (.pa κ ver sz j off)) X) K = arrAt (todo (m κ)) ver sz fun rows => onO (todo ((atomsOf X).bind valsOf)) fun us => us.length = 1 ∧ (j < rows.length ∧ off + 1 ≤ sz) ∧ evK (todo (rows.set j (splice (rows.getD j []) off us))) fun rs => K (upd m κ (.arr ver sz rs)) := store_paK sz_lawsPageS
attribute [go_sem] lb_lawsPageS sb_lawsPageS sp_lawsPageS
theorem agg_lawsEvent : aggT Try.prog 71 = some true := by kernel_rfl
theorem sz_lawsEvent : szT Try.prog 71 = some 3 := by kernel_rfl
theorem by_lawsEvent : (Try.prog.info? 71).map (·.bytes) = some 24 := by kernel_rfl
theorem zv_lawsEvent : zeroVals Try.prog 71 = some [.int .i64 0, .int .i64 0, .bool false] := by kernel_rfl
theorem za_lawsEvent : zeroAtoms Try.prog 71 = some [.v (.int .i64 0), .v (.int .i64 0), .v (.bool false)] := by kernel_rfl
attribute [go_sem] za_lawsEvent sz_lawsEvent
theorem ld_lawsEvent {m : Mem} {cs : List Value} {K : AV → Prop} : onR (loadS Try.prog 71 m (.at (.pi cs))) K = (3 ≤ cs.length ∧ evK (todo ((cs.take 3).map A.v)) fun cs => K (.ag cs)) := load_piN agg_lawsEvent sz_lawsEvent
theorem ti_lawsEvent : tiOf Try.prog 71 = some ⟨[⟨ "Kind", 3, 0, false, "", "", 0⟩, ⟨ "N", 3, 1, false, "", "", 8⟩, ⟨ "Storm", 4, 2, false, "", "", 16⟩], [.v (.int .i64 0), .v (.int .i64 0), .v (.bool false)]⟩ := by kernel_rfl
theorem lp_lawsEvent {κ ver sz j off : Nat} {m : Mem} {K : AV → Prop} : loadK Try.prog 71 m (.at (.pa κ ver sz j off)) K = (off + 3 ≤ sz ∧ rowAt (todo (m κ)) ver sz j fun r => evK (todo (((r.drop off).take 3).map A.v)) fun cs => K (.ag cs)) := loadK_paB agg_lawsEvent sz_lawsEvent
attribute [go_sem] ld_lawsEvent ti_lawsEvent lp_lawsEvent
theorem fp_lawsEvent_0 {cs : List Value} {K : AV → Prop} : onO (fieldAddrS Try.prog 71 0 (.at (.pi cs))) K = evK (todo (cs.drop 0)) (fun c => K (.at (.pi c))) := fa_pi (fd := ⟨ "Kind", 3, 0, false, "", "", 0⟩) Try.underlying71 rfl sz_int
theorem fo_lawsEvent_0 {κ ver sz i off : Nat} {K : AV → Prop} : onO (fieldAddrS Try.prog 71 0 (.at (.pa κ ver sz i off))) K = evK (todo (off + 0)) (fun o => K (.at (.pa κ ver sz i o))) := fa_pa (fd := ⟨ "Kind", 3, 0, false, "", "", 0⟩) Try.underlying71 rfl sz_int
theorem fb_lawsEvent_0 {κ ver off : Nat} {K : AV → Prop} : onO (fieldAddrS Try.prog 71 0 (.at (.bx κ ver off))) K = evK (todo (off + 0)) (fun o => K (.at (.bx κ ver o))) := fa_bx (fd := ⟨ "Kind", 3, 0, false, "", "", 0⟩) Try.underlying71 rfl sz_int
theorem fg_lawsEvent_0 {cs : List A} {K : AV → Prop} : onR (fieldS Try.prog 71 0 (.ag cs)) K = onO (todo cs[0]?) fun a => K (.at a) := field_1K (fd := ⟨ "Kind", 3, 0, false, "", "", 0⟩) Try.underlying71 rfl agg_int
attribute [go_sem] fp_lawsEvent_0 fo_lawsEvent_0 fb_lawsEvent_0 fg_lawsEvent_0
theorem fp_lawsEvent_1 {cs : List Value} {K : AV → Prop} : onO (fieldAddrS Try.prog 71 1 (.at (.pi cs))) K = evK (todo (cs.drop 1)) (fun c => K (.at (.pi c))) := fa_pi (fd := ⟨ "N", 3, 1, false, "", "", 8⟩) Try.underlying71 rfl sz_int
theorem fo_lawsEvent_1 {κ ver sz i off : Nat} {K : AV → Prop} : onO (fieldAddrS Try.prog 71 1 (.at (.pa κ ver sz i off))) K = evK (todo (off + 1)) (fun o => K (.at (.pa κ ver sz i o))) := fa_pa (fd := ⟨ "N", 3, 1, false, "", "", 8⟩) Try.underlying71 rfl sz_int
theorem fb_lawsEvent_1 {κ ver off : Nat} {K : AV → Prop} : onO (fieldAddrS Try.prog 71 1 (.at (.bx κ ver off))) K = evK (todo (off + 1)) (fun o => K (.at (.bx κ ver o))) := fa_bx (fd := ⟨ "N", 3, 1, false, "", "", 8⟩) Try.underlying71 rfl sz_int
theorem fg_lawsEvent_1 {cs : List A} {K : AV → Prop} : onR (fieldS Try.prog 71 1 (.ag cs)) K = onO (todo cs[1]?) fun a => K (.at a) := field_1K (fd := ⟨ "N", 3, 1, false, "", "", 8⟩) Try.underlying71 rfl agg_int
attribute [go_sem] fp_lawsEvent_1 fo_lawsEvent_1 fb_lawsEvent_1 fg_lawsEvent_1
theorem fp_lawsEvent_2 {cs : List Value} {K : AV → Prop} : onO (fieldAddrS Try.prog 71 2 (.at (.pi cs))) K = evK (todo (cs.drop 2)) (fun c => K (.at (.pi c))) := fa_pi (fd := ⟨ "Storm", 4, 2, false, "", "", 16⟩) Try.underlying71 rfl sz_bool
theorem fo_lawsEvent_2 {κ ver sz i off : Nat} {K : AV → Prop} : onO (fieldAddrS Try.prog 71 2 (.at (.pa κ ver sz i off))) K = evK (todo (off + 2)) (fun o => K (.at (.pa κ ver sz i o))) := fa_pa (fd := ⟨ "Storm", 4, 2, false, "", "", 16⟩) Try.underlying71 rfl sz_bool
theorem fb_lawsEvent_2 {κ ver off : Nat} {K : AV → Prop} : onO (fieldAddrS Try.prog 71 2 (.at (.bx κ ver off))) K = evK (todo (off + 2)) (fun o => K (.at (.bx κ ver o))) := fa_bx (fd := ⟨ "Storm", 4, 2, false, "", "", 16⟩) Try.underlying71 rfl sz_bool
theorem fg_lawsEvent_2 {cs : List A} {K : AV → Prop} : onR (fieldS Try.prog 71 2 (.ag cs)) K = onO (todo cs[2]?) fun a => K (.at a) := field_1K (fd := ⟨ "Storm", 4, 2, false, "", "", 16⟩) Try.underlying71 rfl agg_bool
attribute [go_sem] fp_lawsEvent_2 fo_lawsEvent_2 fb_lawsEvent_2 fg_lawsEvent_2
theorem lb_lawsEvent {m : Mem} {κ ver off : Nat} {K : AV → Prop} : onR (loadS Try.prog 71 m (.at (.bx κ ver off))) K = boxAt (todo (m κ)) ver fun cells => off + 3 ≤ cells.length ∧ evK (todo ((cells.drop off).take 3)) fun cs => K (.ag cs) := load_bxKN agg_lawsEvent sz_lawsEvent
theorem sb_lawsEvent {m : Mem} {κ ver off : Nat} {X : AV} {K : Mem → Prop} : onR (storeS Try.prog 71 m (.at (.bx κ ver off)) X) K = boxAt (todo (m κ)) ver fun cells => onO (todo (atomsOf X)) fun new => new.length = 3 ∧ off + 3 ≤ cells.length ∧ evK (todo (splice cells off new)) fun cs => K (upd m κ (.box ver cs)) := store_bxK sz_lawsEvent
theorem sp_lawsEvent {m : Mem} {κ ver sz j off : Nat} {X : AV} {K : Mem → Prop} : onR (storeS Try.prog 71 m (.at (.pa κ ver sz j off)) X) K = arrAt (todo (m κ)) ver sz fun rows => onO (todo ((atomsOf X).bind valsOf)) fun us => us.length = 3 ∧ (j < rows.length ∧ off + 3 ≤ sz) ∧ evK (todo (rows.set j (splice (rows.getD j []) off us))) fun rs => K (upd m κ (.arr ver sz rs)) := store_paK sz_lawsEvent
attribute [go_sem] lb_lawsEvent sb_lawsEvent sp_lawsEvent
theorem und_lawsEventS : Try.prog.underlying 29 = some (.slice 71) := Try.underlying29
theorem agg_lawsEventS : aggT Try.prog 29 = some false := by kernel_rfl
theorem sz_lawsEventS : szT Try.prog 29 = some 1 := by kernel_rfl
theorem ix_lawsEventS {rows : List (List Value)} {k : IntKind} {i : Int} {K : AV → Prop} : onR (indexAddrS Try.prog 29 (.at (.im 3 rows)) (.at (.v (.int k i)))) K = ((0 ≤ i ∧ i < (rows.length : Int)) ∧ ∀ r, rows[i.toNat]? = some r → K (.at (.pi r))) := idx_im und_lawsEventS sz_lawsEvent
theorem io_lawsEventS {κ ver n : Nat} {k : IntKind} {i : Int} {K : AV → Prop} : onR (indexAddrS Try.prog 29 (.at (.ow κ ver 3 n)) (.at (.v (.int k i)))) K = ((0 ≤ i ∧ i < (n : Int)) ∧ evK (todo i.toNat) fun j => K (.at (.pa κ ver 3 j 0))) := idx_ow und_lawsEventS sz_lawsEvent
theorem ln_lawsEventS {sz : Nat} {rows : List (List Value)} {K : Value → Prop} : onO (lenS Try.prog 29 (.at (.im sz rows))) K = K (.int .i64 rows.length) := len_im und_lawsEventS
theorem lo_lawsEventS {κ ver sz n : Nat} {K : Value → Prop} : onO (lenS Try.prog 29 (.at (.ow κ ver sz n))) K = K (.int .i64 n) := len_ow und_lawsEventS
theorem lz_lawsEventS {K : Value → Prop} : onO (lenS Try.prog 29 (.at .nil)) K = K (.int .i64 0) := len_nil und_lawsEventS
theorem si_lawsEventS : siOf Try.prog 29 = some ⟨71, 3, 24, [.int .i64 0, .int .i64 0, .bool false]⟩ := by kernel_rfl
theorem ci_lawsEventS {nx : Nat} {q : Bool} {t : Nat → AV} {m : Mem} {rows : List (List Value)} {lo hi : Option Operand} {K : AV → Mem → Prop} : onM (sliceS Try.prog nx q 29 ⟨t, m⟩ (.at (.im 3 rows)) lo hi none) K = onO (todo (boundS ⟨t, m⟩ lo 0)) fun l => onO (todo (boundS ⟨t, m⟩ hi rows.length)) fun h => (0 ≤ l ∧ l ≤ h ∧ h ≤ (rows.length : Int)) ∧ evK (todo ((rows.drop l.toNat).take (h.toNat - l.toNat))) fun rs => K (.at (.im 3 rs)) m := cut_im_k und_lawsEventS sz_lawsEvent
theorem cn_lawsEventS {nx : Nat} {q : Bool} {t : Nat → AV} {m : Mem} {lo hi : Option Operand} {K : AV → Mem → Prop} : onM (sliceS Try.prog nx q 29 ⟨t, m⟩ (.at .nil) lo hi none) K = onO (todo (boundS ⟨t, m⟩ lo 0)) fun l => onO (todo (boundS ⟨t, m⟩ hi 0)) fun h => (l = 0 ∧ h = 0) ∧ K (.at .nil) m := cut_nil_k und_lawsEventS sz_lawsEvent
attribute [go_sem] ix_lawsEventS io_lawsEventS ln_lawsEventS lo_lawsEventS lz_lawsEventS si_lawsEventS ci_lawsEventS cn_lawsEventS
attribute [go_sem] sz_lawsEventS
theorem lb_lawsEventS {m : Mem} {κ ver off : Nat} {K : AV → Prop} : onR (loadS Try.prog 29 m (.at (.bx κ ver off))) K = boxAt (todo (m κ)) ver fun cells => onO (todo cells[off]?) fun a => K (.at a) := load_bxK1 agg_lawsEventS
theorem sb_lawsEventS {m : Mem} {κ ver off : Nat} {X : AV} {K : Mem → Prop} : onR (storeS Try.prog 29 m (.at (.bx κ ver off)) X) K = boxAt (todo (m κ)) ver fun cells => onO (todo (atomsOf X)) fun new => new.length = 1 ∧ off + 1 ≤ cells.length ∧ evK (todo (splice cells off new)) fun cs => K (upd m κ (.box ver cs)) := store_bxK sz_lawsEventS
theorem sp_lawsEventS {m : Mem} {κ ver sz j off : Nat} {X : AV} {K : Mem → Prop} : onR (storeS Try.prog 29 m (.at (.pa κ ver sz j off)) X) K = arrAt (todo (m κ)) ver sz fun rows => onO (todo ((atomsOf X).bind valsOf)) fun us => us.length = 1 ∧ (j < rows.length ∧ off + 1 ≤ sz) ∧ evK (todo (rows.set j (splice (rows.getD j []) off us))) fun rs => K (upd m κ (.arr ver sz rs)) := store_paK sz_lawsEventS
attribute [go_sem] lb_lawsEventS sb_lawsEventS sp_lawsEventS
theorem agg_lawsLand : aggT Try.prog 45 = some true := by kernel_rfl
theorem sz_lawsLand : szT Try.prog 45 = some 3 := by kernel_rfl
theorem by_lawsLand : (Try.prog.info? 45).map (·.bytes) = some 40 := by kernel_rfl
theorem zv_lawsLand : zeroVals Try.prog 45 = some [.int .i64 0, .int .i64 0, .slice none 0 0] := by kernel_rfl
theorem za_lawsLand : zeroAtoms Try.prog 45 = some [.v (.int .i64 0), .v (.int .i64 0), .nil] := by kernel_rfl
attribute [go_sem] za_lawsLand sz_lawsLand
theorem ld_lawsLand {m : Mem} {cs : List Value} {K : AV → Prop} : onR (loadS Try.prog 45 m (.at (.pi cs))) K = (3 ≤ cs.length ∧ evK (todo ((cs.take 3).map A.v)) fun cs => K (.ag cs)) := load_piN agg_lawsLand sz_lawsLand
theorem ti_lawsLand : tiOf Try.prog 45 = some ⟨[⟨ "W", 3, 0, false, "", "", 0⟩, ⟨ "H", 3, 1, false, "", "", 8⟩, ⟨ "Cells", 43, 2, false, "", "", 16⟩], [.v (.int .i64 0), .v (.int .i64 0), .nil]⟩ := by kernel_rfl
theorem lp_lawsLand {κ ver sz j off : Nat} {m : Mem} {K : AV → Prop} : loadK Try.prog 45 m (.at (.pa κ ver sz j off)) K = (off + 3 ≤ sz ∧ rowAt (todo (m κ)) ver sz j fun r => evK (todo (((r.drop off).take 3).map A.v)) fun cs => K (.ag cs)) := loadK_paB agg_lawsLand sz_lawsLand
attribute [go_sem] ld_lawsLand ti_lawsLand lp_lawsLand
theorem fp_lawsLand_0 {cs : List Value} {K : AV → Prop} : onO (fieldAddrS Try.prog 45 0 (.at (.pi cs))) K = evK (todo (cs.drop 0)) (fun c => K (.at (.pi c))) := fa_pi (fd := ⟨ "W", 3, 0, false, "", "", 0⟩) Try.underlying45 rfl sz_int
theorem fo_lawsLand_0 {κ ver sz i off : Nat} {K : AV → Prop} : onO (fieldAddrS Try.prog 45 0 (.at (.pa κ ver sz i off))) K = evK (todo (off + 0)) (fun o => K (.at (.pa κ ver sz i o))) := fa_pa (fd := ⟨ "W", 3, 0, false, "", "", 0⟩) Try.underlying45 rfl sz_int
theorem fb_lawsLand_0 {κ ver off : Nat} {K : AV → Prop} : onO (fieldAddrS Try.prog 45 0 (.at (.bx κ ver off))) K = evK (todo (off + 0)) (fun o => K (.at (.bx κ ver o))) := fa_bx (fd := ⟨ "W", 3, 0, false, "", "", 0⟩) Try.underlying45 rfl sz_int
theorem fg_lawsLand_0 {cs : List A} {K : AV → Prop} : onR (fieldS Try.prog 45 0 (.ag cs)) K = onO (todo cs[0]?) fun a => K (.at a) := field_1K (fd := ⟨ "W", 3, 0, false, "", "", 0⟩) Try.underlying45 rfl agg_int
attribute [go_sem] fp_lawsLand_0 fo_lawsLand_0 fb_lawsLand_0 fg_lawsLand_0
theorem fp_lawsLand_1 {cs : List Value} {K : AV → Prop} : onO (fieldAddrS Try.prog 45 1 (.at (.pi cs))) K = evK (todo (cs.drop 1)) (fun c => K (.at (.pi c))) := fa_pi (fd := ⟨ "H", 3, 1, false, "", "", 8⟩) Try.underlying45 rfl sz_int
theorem fo_lawsLand_1 {κ ver sz i off : Nat} {K : AV → Prop} : onO (fieldAddrS Try.prog 45 1 (.at (.pa κ ver sz i off))) K = evK (todo (off + 1)) (fun o => K (.at (.pa κ ver sz i o))) := fa_pa (fd := ⟨ "H", 3, 1, false, "", "", 8⟩) Try.underlying45 rfl sz_int
theorem fb_lawsLand_1 {κ ver off : Nat} {K : AV → Prop} : onO (fieldAddrS Try.prog 45 1 (.at (.bx κ ver off))) K = evK (todo (off + 1)) (fun o => K (.at (.bx κ ver o))) := fa_bx (fd := ⟨ "H", 3, 1, false, "", "", 8⟩) Try.underlying45 rfl sz_int
theorem fg_lawsLand_1 {cs : List A} {K : AV → Prop} : onR (fieldS Try.prog 45 1 (.ag cs)) K = onO (todo cs[1]?) fun a => K (.at a) := field_1K (fd := ⟨ "H", 3, 1, false, "", "", 8⟩) Try.underlying45 rfl agg_int
attribute [go_sem] fp_lawsLand_1 fo_lawsLand_1 fb_lawsLand_1 fg_lawsLand_1
theorem fp_lawsLand_2 {cs : List Value} {K : AV → Prop} : onO (fieldAddrS Try.prog 45 2 (.at (.pi cs))) K = evK (todo (cs.drop 2)) (fun c => K (.at (.pi c))) := fa_pi (fd := ⟨ "Cells", 43, 2, false, "", "", 16⟩) Try.underlying45 rfl sz_intS
theorem fo_lawsLand_2 {κ ver sz i off : Nat} {K : AV → Prop} : onO (fieldAddrS Try.prog 45 2 (.at (.pa κ ver sz i off))) K = evK (todo (off + 2)) (fun o => K (.at (.pa κ ver sz i o))) := fa_pa (fd := ⟨ "Cells", 43, 2, false, "", "", 16⟩) Try.underlying45 rfl sz_intS
theorem fb_lawsLand_2 {κ ver off : Nat} {K : AV → Prop} : onO (fieldAddrS Try.prog 45 2 (.at (.bx κ ver off))) K = evK (todo (off + 2)) (fun o => K (.at (.bx κ ver o))) := fa_bx (fd := ⟨ "Cells", 43, 2, false, "", "", 16⟩) Try.underlying45 rfl sz_intS
theorem fg_lawsLand_2 {cs : List A} {K : AV → Prop} : onR (fieldS Try.prog 45 2 (.ag cs)) K = onO (todo cs[2]?) fun a => K (.at a) := field_1K (fd := ⟨ "Cells", 43, 2, false, "", "", 16⟩) Try.underlying45 rfl agg_intS
attribute [go_sem] fp_lawsLand_2 fo_lawsLand_2 fb_lawsLand_2 fg_lawsLand_2
theorem lb_lawsLand {m : Mem} {κ ver off : Nat} {K : AV → Prop} : onR (loadS Try.prog 45 m (.at (.bx κ ver off))) K = boxAt (todo (m κ)) ver fun cells => off + 3 ≤ cells.length ∧ evK (todo ((cells.drop off).take 3)) fun cs => K (.ag cs) := load_bxKN agg_lawsLand sz_lawsLand
theorem sb_lawsLand {m : Mem} {κ ver off : Nat} {X : AV} {K : Mem → Prop} : onR (storeS Try.prog 45 m (.at (.bx κ ver off)) X) K = boxAt (todo (m κ)) ver fun cells => onO (todo (atomsOf X)) fun new => new.length = 3 ∧ off + 3 ≤ cells.length ∧ evK (todo (splice cells off new)) fun cs => K (upd m κ (.box ver cs)) := store_bxK sz_lawsLand
theorem sp_lawsLand {m : Mem} {κ ver sz j off : Nat} {X : AV} {K : Mem → Prop} : onR (storeS Try.prog 45 m (.at (.pa κ ver sz j off)) X) K = arrAt (todo (m κ)) ver sz fun rows => onO (todo ((atomsOf X).bind valsOf)) fun us => us.length = 3 ∧ (j < rows.length ∧ off + 3 ≤ sz) ∧ evK (todo (rows.set j (splice (rows.getD j []) off us))) fun rs => K (upd m κ (.arr ver sz rs)) := store_paK sz_lawsLand
attribute [go_sem] lb_lawsLand sb_lawsLand sp_lawsLand
end Go.Abs
